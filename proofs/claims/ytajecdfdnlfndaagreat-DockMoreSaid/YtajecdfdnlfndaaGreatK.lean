/- The own layer under the proofs of this seat, part K: what calls of the program come to on an abstract heap. No condition. -/
import Derived.Test.YtajecdfdnlfndaaGreatJ
import Derived.Test.YtajecdfdnlfndaaGreatG
set_option linter.unusedSimpArgs false
set_option linter.unusedVariables false
namespace Go.Proofs.Ab
open Go Go.Proofs
variable {w0 : World} {h : aA}
attribute [local irreducible] ACall bC cT aU cV rvC lp rg dr ex un rv
theorem zK (x lo hi : Int) : aU Tryz.prog w0 97 [.int .i64 x,.int .i64 lo,.int .i64 hi] h (.bool (inB x lo hi)) h := by
 refine aO aV vQ aA5 aA4 (qE rfl) (by simp [AV.bdd,AV.bdds]) fun hb ha => aY ?_
 simp only [go_sem,mf97]
 exact ⟨fun a => by simp [inB,a],fun a => by simp [inB,a]⟩
theorem vH (x lo hi : Int) : aU Tryz.prog w0 82 [.int .i64 x,.int .i64 lo,.int .i64 hi] h (.bool (inB x lo hi)) h := by
 refine aO aV aDa mf82_b mf82_g (qE rfl) (by simp [AV.bdd,AV.bdds]) fun hb ha => aY ?_
 simp only [go_sem,mf82]
 exact ⟨fun a => by simp [inB,a],fun a => by simp [inB,a]⟩
theorem fX {α : Type} {l : List α} (d : α) {p : α → Bool} : (List.range l.length).all (fun j => p (l.getD j d)) = l.all p := by
 rw [Bool.eq_iff_iff,List.all_eq_true,List.all_eq_true]
 constructor
 · intro x a ha
   obtain ⟨i,hi,rfl⟩ := List.getElem_of_mem ha
   have := x i (List.mem_range.2 hi)
   rwa [fL hi] at this
 · intro x j hj
   have hj := List.mem_range.1 hj
   rw [fL hj]
   exact x _ (qG hj)
theorem rS {α : Type} {l : List α} {d x : α} {j : Nat} (e : l[j]? = some x) : l.getD j d = x := by simp [List.getD_eq_getElem?_getD,e]
theorem xS {es : Nat} : ∀ {rows : List (List AV)},(∀ c ∈ rows,c.length = es) → ∀ {j : Nat} {c : List AV},rows[j]? = some c → j * es + es ≤ rows.flatten.length ∧ (rows.flatten.drop (j * es)).take es = c ∧ ∀ (o : Nat) x,c[o]? = some x → rows.flatten[j * es + o]? = some x
 | [],_,j,c,hc => by simp at hc
 | r :: rows,h,0,c,hc => by
  simp only [List.getElem?_cons_zero,Option.some.injEq] at hc; subst hc
  have hl := h r (by simp)
  subst hl
  refine ⟨by simp,by simp,fun o x hx => ?_⟩
  rw [Nat.zero_mul,Nat.zero_add,List.flatten_cons,qH (aQ hx)]; exact hx
 | r :: rows,h,j + 1,c,hc => by
  have hl := h r (by simp)
  obtain ⟨a,b,e⟩ := xS (rows := rows) (es := es) (fun x hx => h x (by simp [hx])) (j := j) (by simpa using hc)
  have e1 : (j + 1) * es = r.length + j * es := by rw [Nat.add_mul,hl]; omega
  refine ⟨by rw [e1,List.flatten_cons,List.length_append]; omega,?_,fun o x hx => ?_⟩
  · rw [e1,List.flatten_cons,← List.drop_drop,List.drop_left]; exact b
  · rw [e1,List.flatten_cons,qI (by omega)]
    have := e o x hx
    rwa [show r.length + j * es + o - r.length = j * es + o by omega]
theorem nat_ix {n : Nat} : (if (0 : Int) ≤ (n : Int) then some (n : Int).toNat else none) = some n := by rw [if_pos (by omega),Int.toNat_natCast]
theorem nA (rows : List (List AV)) (v fv : AV) (p : Nat → Bool) (hv : Sl w0 h 4 v rows) (ho : ∀ c ∈ rows,c.all one = true) (hn : rows.length < 1000000)
 (hf : ∀ (j : Nat) c,rows[j]? = some c → (∀ i,i < j → p i = true) → ∀ L,cV Tryz.prog w0 fv [.agg c] (h ++ L) (.bool (p j)) (h ++ L)) : aU Tryz.prog w0 113 [v,fv] h (.bool ((List.range rows.length).all p)) h := by
 refine aO aV rP xI xH (qE rfl) (by simp [AV.bdd,AV.bdds]) fun hb ha => aY ?_
 have hfb : fv.bdd h.length := by simp only [AV.bdds] at ha; exact ha.2.1
 obtain ⟨hlen,q,hix,hrow,_⟩ := hv.use
 have vb := hv.bdd (Nat.le_refl _)
 simp only [go_sem,mf113,hlen]
 refine mC (fun j => [(1,fv),(7,v),(8,.int .i64 rows.length),(9,.int .i64 j)]) (fun j => p j = true) rows.length rfl (fun j hj hall ih => ?_) (fun hall => ?_)
 · refine bF aV sN [1,7,8,9] L113_0.eq_1 ?_
   have e1 := hix j hj
   have e3 : (j : Int) < rows.length := by omega
   obtain ⟨c,hc⟩ : ∃ c,rows[j]? = some c := ⟨_,qA hj⟩
   have hl : c.length = 4 := (vK (hrow j _ hc)).1
   have e2 : ∀ L,rdn w0 (h ++ L) (q.add (j * 4)) 4 = some c := fun L => cK (hrow j _ hc)
   have ho := ho c (List.mem_of_getElem? hc)
   obtain ⟨x0,x1,x2,x3,rfl⟩ : ∃ x0 x1 x2 x3,c = [x0,x1,x2,x3] := by
    match c,hl with
    | [x0,x1,x2,x3],_ => exact ⟨x0,x1,x2,x3,rfl⟩
   simp only [go_sem,e1,e2,e3,ho]
   refine aI (by simpa using hf j _ hc hall [some (.row [x0,x1,x2,x3])]) ?_
   simp only [go_sem]
   refine ⟨fun e => ?_,fun e => ⟨(by unfold I64; omega),?_⟩⟩
   · have : (List.range rows.length).all p = false := by
      rw [List.all_eq_false]; exact ⟨j,List.mem_range.2 hj,by simp [e]⟩
     rw [this]
   · refine fJ 0 hb (by simp [HBs]) (by simp [cR,cS,dV,dW,fD,dN,AV.bdds,AV.bdd,Pl.bdd,cC]; exact ⟨hfb,vb⟩) ?_
     simpa using ih e
 · refine bF aV sN [1,7,8,9] L113_0.eq_1 ?_
   have e3 : ¬ (rows.length : Int) < rows.length := by omega
   simp only [go_sem,e3]
   have : (List.range rows.length).all p = true := by rw [List.all_eq_true]; exact fun x hx => hall x (List.mem_range.1 hx)
   rw [this]
theorem nB (rows : List (List AV)) (v fv : AV) (p : Nat → Bool) (hv : Sl w0 h 3 v rows) (ho : ∀ c ∈ rows,c.all one = true) (hn : rows.length < 1000000)
 (hf : ∀ (j : Nat) c,rows[j]? = some c → (∀ i,i < j → p i = true) → ∀ L,cV Tryz.prog w0 fv [.agg c] (h ++ L) (.bool (p j)) (h ++ L)) : aU Tryz.prog w0 121 [v,fv] h (.bool ((List.range rows.length).all p)) h := by
 refine aO aV rJ wW wV (qE rfl) (by simp [AV.bdd,AV.bdds]) fun hb ha => aY ?_
 have hfb : fv.bdd h.length := by simp only [AV.bdds] at ha; exact ha.2.1
 obtain ⟨hlen,q,hix,hrow,_⟩ := hv.use
 have vb := hv.bdd (Nat.le_refl _)
 simp only [go_sem,mf121,hlen]
 refine mC (fun j => [(1,fv),(7,v),(8,.int .i64 rows.length),(9,.int .i64 j)]) (fun j => p j = true) rows.length rfl (fun j hj hall ih => ?_) (fun hall => ?_)
 · refine bF aV sM [1,7,8,9] L121_0.eq_1 ?_
   have e1 := hix j hj
   have e3 : (j : Int) < rows.length := by omega
   obtain ⟨c,hc⟩ : ∃ c,rows[j]? = some c := ⟨_,qA hj⟩
   have hl : c.length = 3 := (vK (hrow j _ hc)).1
   have e2 : ∀ L,rdn w0 (h ++ L) (q.add (j * 3)) 3 = some c := fun L => cK (hrow j _ hc)
   have ho := ho c (List.mem_of_getElem? hc)
   obtain ⟨x0,x1,x2,rfl⟩ : ∃ x0 x1 x2,c = [x0,x1,x2] := by
    match c,hl with
    | [x0,x1,x2],_ => exact ⟨x0,x1,x2,rfl⟩
   simp only [go_sem,e1,e2,e3,ho]
   refine aI (by simpa using hf j _ hc hall [some (.row [x0,x1,x2])]) ?_
   simp only [go_sem]
   refine ⟨fun e => ?_,fun e => ⟨(by unfold I64; omega),?_⟩⟩
   · have : (List.range rows.length).all p = false := by
      rw [List.all_eq_false]; exact ⟨j,List.mem_range.2 hj,by simp [e]⟩
     rw [this]
   · refine fJ 0 hb (by simp [HBs]) (by simp [cR,cS,dV,dW,fD,dN,AV.bdds,AV.bdd,Pl.bdd,cC]; exact ⟨hfb,vb⟩) ?_
     simpa using ih e
 · refine bF aV sM [1,7,8,9] L121_0.eq_1 ?_
   have e3 : ¬ (rows.length : Int) < rows.length := by omega
   simp only [go_sem,e3]
   have : (List.range rows.length).all p = true := by rw [List.all_eq_true]; exact fun x hx => hall x (List.mem_range.1 hx)
   rw [this]
theorem oH (a b lo hi : Int) : aU Tryz.prog w0 115 [.agg [.int .i64 a,.int .i64 b],.int .i64 lo,.int .i64 hi] h (.bool (decide (lo ≤ a) && (decide (a ≤ b) && decide (b ≤ hi)))) h := by
 refine aO aV rN xE xD (qE rfl) (by simp [AV.bdd,AV.bdds]) fun hb ha => aY ?_
 simp only [go_sem,mf115]
 exact ⟨fun x => ⟨fun y => by simp [x,y],fun y => by simp [x,y]⟩,fun x => by simp [x]⟩
end Go.Proofs.Ab
namespace Go.Proofs.Ab
open Go Go.Proofs
variable {w : World} {h : aA} {cs : List Value}
theorem aBZ {v : Value} (g : Gd w (.int .nil) [v]) : ∃ n : Int,inj v = .int .i64 n ∧ I64 n := by
 obtain ⟨n,_,e,h,rfl⟩ := g
 cases e; exact ⟨n,rfl,h⟩
def mF : Rw := .int (.int (.int (.int .nil)))
theorem xO (g : Gd w mF cs) : ∃ a b c d : Int,cs.map inj = [.int .i64 a,.int .i64 b,.int .i64 c,.int .i64 d] ∧ I64 a ∧ I64 b ∧ I64 c ∧ I64 d := by
 obtain ⟨a,_,rfl,h1,b,_,rfl,h2,c,_,rfl,h3,d,_,rfl,h4,rfl⟩ := g
 exact ⟨a,b,c,d,rfl,h1,h2,h3,h4⟩
def mG : Rw := .int (.int (.int .nil))
theorem aEt (g : Gd w mG cs) : ∃ a b c : Int,cs.map inj = [.int .i64 a,.int .i64 b,.int .i64 c] ∧ I64 a ∧ I64 b ∧ I64 c := by
 obtain ⟨a,_,rfl,h1,b,_,rfl,h2,c,_,rfl,h3,rfl⟩ := g
 exact ⟨a,b,c,rfl,h1,h2,h3⟩
end Go.Proofs.Ab

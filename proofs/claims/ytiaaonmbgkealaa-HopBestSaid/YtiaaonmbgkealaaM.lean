/- The own layer under the proofs of this seat, part M: what calls of the program come to on an abstract heap. No condition. -/
import Derived.Test.YtiaaonmbgkealaaL
import Derived.Test.YtiaaonmbgkealaaG
set_option linter.unusedSimpArgs false
set_option linter.unusedVariables false
namespace Go.Proofs.Ab
open Go Go.Proofs
variable {w0 : World} {h : Heap}
attribute [local irreducible] ACall bY dD bA bX rvC lp rg dr ex un rv
theorem jP (x lo hi : Int) : bA Try.prog w0 66 [.int .i64 x,.int .i64 lo,.int .i64 hi] h (.bool (inB x lo hi)) h := by
 refine aQ aM aI4 mf66_b mf66_g (qE rfl) (by simp [AV.bdd,AV.bdds]) fun hb ha => aU ?_
 simp only [go_sem,mf66]
 exact ⟨fun a => by simp [inB,a],fun a => by simp [inB,a]⟩
def rM : List bM → Int → Int
 | [],_ => -1
 | s :: l,m => if m ≤ s.high then max m s.low else rM l m
def aHq (c : cH) : Bool := c.stops.all (fun s => decide (s.windows.length ≤ 20)) && (decide (c.stops.length ≤ 20) && decide (c.legs.length ≤ 20))
theorem ChainS.R {c : cH} {v : iX} (s : ChainS w0 h c v) (hb : aHq c = true) : gK w0 h c v := by
 simp only [aHq,Bool.and_eq_true,decide_eq_true_eq,List.all_eq_true] at hb
 exact ⟨s,by omega,by omega,fun x hx => by have := hb.1 x hx; omega⟩
theorem Gro.base {g H : Heap} {es n : Nat} {ov : AV} {vs : List AV} (a : Gro g H es n ov vs) (s : aB h g) : Gro h H es n ov vs := by
 refine ⟨s.trans a.sub,?_⟩
 rcases a.own with h1 | ⟨io,h1,h2⟩
 · exact .inl h1
 · exact .inr ⟨io,Nat.le_trans s.1 h1,h2⟩
end Go.Proofs.Ab
namespace Go.Proofs.Ab
open Go Go.Proofs
theorem vQ {l : List bM} {s : bM} {m : Int} (hl : ∀ x ∈ l,0 ≤ x.low) (hm : 0 ≤ m) : rM (l ++ [s]) m = if rM l m < 0 then (if m ≤ s.high then max m s.low else -1) else rM l m := by
 induction l with
 | nil => simp [rM]
 | cons a l ih =>
  have hi := ih fun x hx => hl x (List.mem_cons_of_mem _ hx)
  by_cases h : m ≤ a.high
  · have := hl a List.mem_cons_self
    have h5 : ¬ max m a.low < 0 := by omega
    simp only [List.cons_append,rM,h,if_true,h5,if_false]
  · simp only [List.cons_append,rM,h,if_false,hi]
theorem pZ {p : Nat → Bool} {k : Nat} : mI p (List.range (k + 1)) = if mI p (List.range k) < 0 then (if p k then (k : Int) else -1) else mI p (List.range k) := by
 unfold mI
 rw [List.range_succ,List.findIdx?_append]
 cases e : (List.range k).findIdx? p with
 | none =>
  simp only [Option.none_or,List.findIdx?_cons,List.findIdx?_nil,List.length_range]
  cases hp : p k <;> simp
 | some i => simp; omega
structure SpI (r : Nat → Bool) (k : Nat) (out : List bM) : Prop where
 bd : ∀ s ∈ out,0 ≤ s.low ∧ s.low ≤ s.high ∧ s.high < k
 nx : ∀ m : Int,0 ≤ m → rM out m = mI (fun (t : Nat) => decide (m ≤ (t : Int)) && r t) (List.range k)
 wi : ∀ m : Nat,hY out m = (decide (m < k) && r m)
theorem SpI.nil {r : Nat → Bool} : SpI r 0 [] := ⟨by simp,fun m _ => rfl,fun m => by simp [hY]⟩
theorem SpI.no {r : Nat → Bool} {k : Nat} {out : List bM} (a : SpI r k out) (h : r k = false) : SpI r (k + 1) out := by
 refine ⟨fun s hs => by have := a.bd s hs; omega,fun m hm => ?_,fun m => ?_⟩
 · rw [a.nx m hm,pZ,h]
   simp only [Bool.and_false,Bool.false_eq_true,if_false]
   split
   · rename_i h1; unfold mI at h1 ⊢; split at h1
     · omega
     · rfl
   · rfl
 · rw [a.wi]
   by_cases hm : m = k
   · subst hm; simp [h]
   · have : decide (m < k) = decide (m < k + 1) := by rw [decide_eq_decide]; omega
     rw [this]
theorem tN {l : List bM} {s : bM} {m : Int} : hY (l ++ [s]) m = (hY l m || inB m s.low s.high) := by simp [hY]
theorem SpI.yes {r : Nat → Bool} {k : Nat} {out : List bM} (a : SpI r k out) (h : r k = true) : SpI r (k + 1) (uK out k) := by
 have hp : ∀ m : Int,(decide (m ≤ (k : Int)) && r k) = decide (m ≤ (k : Int)) := fun m => by rw [h,Bool.and_true]
 have hnew : (∀ init s,out = init ++ [s] → s.high ≠ (k : Int) - 1) → SpI r (k + 1) (out ++ [⟨k,k⟩]) := fun _ => by
  refine ⟨fun s hs => ?_,fun m hm => ?_,fun m => ?_⟩
  · rcases List.mem_append.1 hs with h1 | h1
    · have := a.bd s h1; omega
    · simp only [List.mem_singleton] at h1; subst h1; simp; omega
  · rw [vQ (fun x hx => (a.bd x hx).1) hm,a.nx m hm,pZ,hp]
    simp only [decide_eq_true_eq]
    split
    · split
      · omega
      · rfl
    · rfl
  · rw [tN,a.wi]
    simp only [inB]
    by_cases hm : m = k
    · subst hm; simp [h]
    · have e1 : decide (m < k) = decide (m < k + 1) := by rw [decide_eq_decide]; omega
      have e2 : (decide ((k : Int) ≤ (m : Int)) && decide ((m : Int) ≤ (k : Int))) = false := by
       rcases Nat.lt_or_ge m k with h1 | h1
       · rw [decide_eq_false (by omega)]; rfl
       · rw [decide_eq_false (show ¬ (m : Int) ≤ (k : Int) by omega),Bool.and_false]
      rw [e1,e2,Bool.or_false]
 rcases List.eq_nil_or_concat out with rfl | ⟨init,s,rfl⟩
 · exact hnew fun init s e => by simp at e
 · rw [List.concat_eq_append] at *
   by_cases hs : s.high = (k : Int) - 1
   · have e : uK (init ++ [s]) k = init ++ [⟨s.low,k⟩] := by simp [uK,hs]
     rw [e]
     have hb := a.bd s (by simp)
     have hi : ∀ x ∈ init,0 ≤ x.low := fun x hx => (a.bd x (by simp [hx])).1
     refine ⟨fun x hx => ?_,fun m hm => ?_,fun m => ?_⟩
     · rcases List.mem_append.1 hx with h1 | h1
       · have := a.bd x (by simp [h1]); omega
       · simp only [List.mem_singleton] at h1; subst h1; simp; omega
     · have o := a.nx m hm
       rw [vQ hi hm] at o ⊢
       rw [pZ,hp,← o]
       simp only [decide_eq_true_eq]
       by_cases h1 : rM init m < 0
       · by_cases h3 : m ≤ s.high
         · have h4 : m ≤ (k : Int) := by omega
           have h5 : ¬ max m s.low < 0 := by omega
           simp only [h1,h3,h4,h5,if_true,if_false]
         · have h5 : (-1 : Int) < 0 := by omega
           by_cases h4 : m ≤ (k : Int)
           · simp only [h1,h3,h4,h5,if_true,if_false]; omega
           · simp only [h1,h3,h4,h5,if_true,if_false]
       · simp only [h1,if_false]
     · have o := a.wi m
       rw [tN] at o ⊢
       simp only [inB] at o ⊢
       by_cases hm : m = k
       · subst hm
         rw [decide_eq_true (show s.low ≤ (m : Int) by omega),decide_eq_true (Int.le_refl _),decide_eq_true (by omega),h]; simp
       · have e1 : decide (m < k + 1) = decide (m < k) := by rw [decide_eq_decide]; omega
         have e2 : decide ((m : Int) ≤ (k : Int)) = decide ((m : Int) ≤ s.high) := by rw [decide_eq_decide]; omega
         rw [e1,e2]; exact o
   · have e : uK (init ++ [s]) k = init ++ [s] ++ [⟨k,k⟩] := by simp [uK,hs]
     rw [e]
     exact hnew fun init' s' e' => by
      have := List.append_inj_right' e' rfl
      simp only [List.cons.injEq,and_true] at this
      subst this; exact hs
theorem SpI.all {r : Nat → Bool} : ∀ k,k ≤ 1441 → SpI r k (spL 0 [] ((nI r).take k)) := by
 intro k hk
 induction k with
 | zero => exact SpI.nil
 | succ k ih =>
  have i := ih (by omega)
  have hl : (nI r)[k]? = some (r k) := by rw [nI,List.getElem?_map,List.getElem?_range (by omega)]; rfl
  rw [List.take_add_one,hl,Option.toList,vH,List.length_take,Nat.zero_add,Nat.min_eq_left (by simp [nI]; omega)]
  cases e : r k with
  | true => rw [if_pos rfl]; exact i.yes e
  | false => exact i.no e
end Go.Proofs.Ab
namespace Go.Proofs.Ab
open Go Go.Proofs
variable {w0 : World} {h : Heap}
attribute [local irreducible] ACall bY dD bA bX rvC lp rg dr ex un rv
def uE (io : Nat) (G : Heap) (y : AV) (l : List bM) : Prop := (y = .nilS ∧ l = []) ∨ ∃ k,k ≠ io ∧ y = .sl (.own k 0) l.length 2 false ∧ G[k]? = some (some (.row (gY l)))
theorem uE.sl {io : Nat} {G : Heap} {y : AV} {l : List bM} (a : uE io G y l) : Sl w0 G 2 y (l.map bM.c) := by
 rcases a with ⟨rfl,rfl⟩ | ⟨k,_,rfl,h2⟩
 · exact .inl ⟨rfl,rfl⟩
 · have := eP (w0 := w0) (H := G) (full := false) (io := k) (rows := l.map bM.c) (es := 2) h2 (pS _)
   rwa [List.length_map] at this
theorem uE.sub {io : Nat} {G H : Heap} {y : AV} {l : List bM} (a : uE io G y l) (s : aB G H) : uE io H y l := by
 rcases a with h1 | ⟨k,h0,h1,h2⟩
 · exact .inl h1
 · exact .inr ⟨k,h0,h1,s.2 _ _ h2⟩
theorem uE.set {io : Nat} {G : Heap} {y : AV} {l : List bM} {x : Option Blk} (a : uE io G y l) : uE io (G.set io x) y l := by
 rcases a with h1 | ⟨k,h0,h1,h2⟩
 · exact .inl h1
 · exact .inr ⟨k,h0,h1,by rw [qB (Ne.symm h0)]; exact h2⟩
end Go.Proofs.Ab
namespace Go.Proofs.Ab
open Go Go.Proofs
variable {w : World} {h : Heap} {cs : List Value}
theorem int_of {v : Value} (g : Gd w (.int .nil) [v]) : ∃ n : Int,inj v = .int .i64 n ∧ I64 n := by
 obtain ⟨n,_,e,h,rfl⟩ := g
 cases e; exact ⟨n,rfl,h⟩
end Go.Proofs.Ab
namespace Go.Proofs.Ab
open Go Go.Proofs
variable {w0 : World} {h : Heap}
attribute [local irreducible] ACall bY dD bA bX rvC lp rg dr ex un rv
section
variable {d : aO} {v : bO}
theorem DayS.lens (s : DayS w0 h d v) : fN v.pl = some (.int .i64 d.places.length) ∧ fN v.ln = some (.int .i64 d.links.length) ∧ fN v.pn = some (.int .i64 d.planes.length) ∧ fN v.pe = some (.int .i64 d.people.length) ∧ fN v.we = some (.int .i64 d.weathers.length) :=
 ⟨by simpa using s.places.use.1,by simpa using s.links.use.1,by simpa using s.planes.use.1,by simpa using s.people.use.1,NS.len s.weathers⟩
theorem DayS.ones (s : DayS w0 h d v) : one v.pl = true ∧ one v.ln = true ∧ one v.pn = true ∧ one v.pe = true ∧ one v.we = true :=
 ⟨s.places.one.1,s.links.one.1,s.planes.one.1,s.people.one.1,(NS.one s.weathers).1⟩
theorem DayS.bdd (s : DayS w0 h d v) {N : Nat} (hN : h.length ≤ N) : AV.bdds N (aX v) := by
 simp only [aX,AV.bdds]
 exact ⟨s.places.bdd hN,s.links.bdd hN,s.planes.bdd hN,s.people.bdd hN,NS.bdd s.weathers hN,trivial⟩
theorem DayS.place (s : DayS w0 h d v) {j : Nat} (hj : j < d.places.length) : ∃ p : Pl,bT 2 v.pl (some j) = some (.ptr p) ∧ ∀ L,rdn w0 (h ++ L) p 2 = some d.places[j].c := by
 obtain ⟨p,p1,p2⟩ := s.places.lt (j := j) (by simpa using hj)
 exact ⟨p,p1,fun L => p2 L _ (by simp [hj])⟩
theorem DayS.link (s : DayS w0 h d v) {j : Nat} (hj : j < d.links.length) : ∃ p : Pl,bT 2 v.ln (some j) = some (.ptr p) ∧ ∀ L,rdn w0 (h ++ L) p 2 = some d.links[j].c := by
 obtain ⟨p,p1,p2⟩ := s.links.lt (j := j) (by simpa using hj)
 exact ⟨p,p1,fun L => p2 L _ (by simp [hj])⟩
theorem DayS.plane (s : DayS w0 h d v) {j : Nat} (hj : j < d.planes.length) : ∃ p : Pl,bT 5 v.pn (some j) = some (.ptr p) ∧ ∀ L,rdn w0 (h ++ L) p 5 = some d.planes[j].c := by
 obtain ⟨p,p1,p2⟩ := s.planes.lt (j := j) (by simpa using hj)
 exact ⟨p,p1,fun L => p2 L _ (by simp [hj])⟩
theorem DayS.person (s : DayS w0 h d v) {j : Nat} (hj : j < d.people.length) : ∃ p : Pl,bT 5 v.pe (some j) = some (.ptr p) ∧ ∀ L,rdn w0 (h ++ L) p 5 = some d.people[j].c := by
 obtain ⟨p,p1,p2⟩ := s.people.lt (j := j) (by simpa using hj)
 exact ⟨p,p1,fun L => p2 L _ (by simp [hj])⟩
end
theorem zO {α : Type} {l : List α} {x : α} (h : 0 < l.length) : l[0] = l.headD x := by
 cases l with
 | nil => simp at h
 | cons a b => rfl
def lU (d : aO) : Bool := d.weathers.all (fun w => decide (w.length ≤ 12)) && (decide (d.places.length ≤ 12) && (decide (d.links.length ≤ 40) && (decide (d.planes.length ≤ 12) && (decide (d.people.length ≤ 12) && decide (d.weathers.length ≤ 12)))))
theorem aIt (d : aO) (v : bO) (hS : DayS w0 h d v) (hl : d.weathers.length ≤ 9223372036854775807) : bA Try.prog w0 31 [.agg (aX v)] h (.bool (lU d)) h := by
 refine aQ aM aJn mf31_b mf31_g (qE rfl) (by simp [AV.bdd,AV.bdds]) fun hb ha => aU ?_
 obtain ⟨l1,l2,l3,l4,l5⟩ := hS.lens
 obtain ⟨o1,o2,o3,o4,o5⟩ := hS.ones
 simp only [go_sem,mf31,o1,o2,o3,o4,o5]
 refine dR (fun j => [(1,.ptr (.own h.length 0)),(3,.int .i64 j)]) (fun j => (d.weathers.getD j []).length ≤ 12) d.weathers.length rfl (fun j hj hi ih => ?_) (fun es => ?_)
 · refine aE aM aDW [1,3] L31_0.eq_1 ?_
   obtain ⟨p,x,p1,p2,p3⟩ := hS.weathers.at_ (j := j) hj
   have i3 : (j : Int) < d.weathers.length := by omega
   have l6 := (SlI.use p3).1
   simp only [go_sem,l5,i3,p1,p2,l6]
   rw [aI hj] at ih
   refine ⟨fun e => ?_,fun e => ⟨(by unfold I64; omega),ih (by omega)⟩⟩
   have : d.weathers.all (fun w => decide (w.length ≤ 12)) = false := List.all_eq_false.2 ⟨_,qG hj,by simp; omega⟩
   simp [lU,this]
 refine aE aM aDW [1,3] L31_0.eq_1 ?_
 have x1 : ¬ (d.weathers.length : Int) < d.weathers.length := by omega
 simp only [go_sem,l1,l2,l3,l4,l5,x1]
 have es : d.weathers.all (fun w => decide (w.length ≤ 12)) = true := by
  rw [← dN (x := [])]; exact cR.2 fun i hi => decide_eq_true (es i hi)
 have h0 : ∀ a b : Nat,((a : Int) ≤ b) = (a ≤ b) := fun a b => by simp only [eq_iff_iff]; omega
 have h5 : ∀ a : Nat,((a : Int) ≤ 12) = (a ≤ 12) := fun a => h0 a 12
 have h6 : ∀ a : Nat,((a : Int) ≤ 40) = (a ≤ 40) := fun a => h0 a 40
 simp only [h5,h6]
 refine ⟨fun e1 => ⟨fun e2 => ⟨fun e3 => ⟨fun e4 => ?_,fun e4 => ?_⟩,fun e3 => ?_⟩,fun e2 => ?_⟩,fun e1 => ?_⟩
 · simp [lU,es,e1,e2,e3,e4]
 · simp only [lU,decide_eq_false e4,Bool.false_and,Bool.and_false]
 · simp only [lU,decide_eq_false e3,Bool.false_and,Bool.and_false]
 · simp only [lU,decide_eq_false e2,Bool.false_and,Bool.and_false]
 · simp only [lU,decide_eq_false e1,Bool.false_and,Bool.and_false]
theorem DayS.R {d : aO} {v : bO} (s : DayS w0 h d v) (hb : lU d = true) : gJ w0 h d v := by
 simp only [lU,Bool.and_eq_true,decide_eq_true_eq,List.all_eq_true] at hb
 exact ⟨s,by omega,by omega,by omega,by omega,by omega,fun w hw => by have := hb.1 w hw; omega⟩
theorem rC (d : aO) (v : bO) (hS : DayS w0 h d v) (hw : d.weathers ≠ []) : bA Try.prog w0 42 [.agg (aX v)] h (.int .i64 (aJ d)) h := by
 refine aQ aM aJf mf42_b mf42_g (qE rfl) (by simp [AV.bdd,AV.bdds]) fun hb ha => aU ?_
 obtain ⟨o1,o2,o3,o4,o5⟩ := hS.ones
 obtain ⟨p,x,p1,p2,p3⟩ := hS.weathers.at_ (j := 0) (List.length_pos_iff.2 hw)
 have l6 := (SlI.use p3).1
 have e : d.weathers[0]'(List.length_pos_iff.2 hw) = d.weathers.headD [] := zO _
 rw [e] at l6
 simp only [go_sem,mf42,o1,o2,o3,o4,o5,p1,p2,l6]
 rfl
end Go.Proofs.Ab
namespace Go.Proofs.Ab
open Go Go.Proofs
variable {w : World} {h : Heap} {cs : List Value}
def aIJ : Rw := .int (.bool .nil)
def linkRw : Rw := .int (.int .nil)
def aAE : Rw := .int (.int (.int (.int (.int .nil))))
def aGR : Rw := .sl (.int .nil) .nil
def dayRw : Rw := .sl aIJ (.sl linkRw (.sl aAE (.sl aAE (.sl aGR .nil))))
theorem aGQ {v : Value} (g : uW w aGR v) : ∃ l : List (List Int),LI w h (inj v) l ∧ l.length ≤ 9223372036854775807 := by
 obtain ⟨rows,h1,h2,h3⟩ := aCK (h := h) g
 obtain ⟨l,rfl,hl⟩ := vJ (f := fun x : AV × List Int => [x.1]) (p := fun x => SlI w h x.1 x.2) (rows := rows) fun c hc => by
  obtain ⟨cs,rfl,u,_,rfl,g2,rfl⟩ := h3 c hc
  obtain ⟨q,hq,_⟩ := aKQ (h := h) g2
  exact ⟨(inj u,q),rfl,hq⟩
 refine ⟨l.map Prod.snd,⟨_,by simp,h1,fun j x c hx hc => ?_⟩,by simpa using h2⟩
 simp only [List.getElem?_map,qD] at hx hc
 obtain ⟨a,a1,rfl⟩ := hx
 obtain ⟨b,b1,rfl⟩ := hc
 rw [a1] at b1; cases b1
 exact ⟨a.1,rfl,hl _ (List.mem_of_getElem? a1)⟩
theorem day_of (g : Gd w dayRw cs) : ∃ (d : aO) (v : bO),cs.map inj = aX v ∧ DayS w h d v ∧ d.weathers.length ≤ 9223372036854775807 := by
 obtain ⟨v0,_,rfl,g0,v1,_,rfl,g1,v2,_,rfl,g2,v3,_,rfl,g3,v4,_,rfl,g4,rfl⟩ := g
 obtain ⟨l0,s0,_⟩ := nO (h := h) iF.c rfl g0 fun _ g => by
  obtain ⟨a,_,rfl,_,b,_,rfl,rfl⟩ := g
  exact ⟨⟨a,b⟩,rfl⟩
 obtain ⟨l1,s1,_⟩ := nO (h := h) cG.c rfl g1 fun _ g => by
  obtain ⟨a,_,rfl,_,b,_,rfl,_,rfl⟩ := g
  exact ⟨⟨a,b⟩,rfl⟩
 obtain ⟨l2,s2,_⟩ := nO (h := h) cL.c rfl g2 fun _ g => by
  obtain ⟨a,_,rfl,_,b,_,rfl,_,c,_,rfl,_,d,_,rfl,_,e,_,rfl,_,rfl⟩ := g
  exact ⟨⟨a,b,c,d,e⟩,rfl⟩
 obtain ⟨l3,s3,_⟩ := nO (h := h) dF.c rfl g3 fun _ g => by
  obtain ⟨a,_,rfl,_,b,_,rfl,_,c,_,rfl,_,d,_,rfl,_,e,_,rfl,_,rfl⟩ := g
  exact ⟨⟨a,b,c,d,e⟩,rfl⟩
 obtain ⟨l4,s4,hl⟩ := aGQ (h := h) g4
 exact ⟨⟨l0,l1,l2,l3,l4⟩,⟨inj v0,inj v1,inj v2,inj v3,inj v4⟩,rfl,⟨s0,s1,s2,s3,s4⟩,hl⟩
end Go.Proofs.Ab
namespace Go.Proofs.Ab
open Go Go.Proofs
variable {w0 : World} {h : Heap}
attribute [local irreducible] ACall bY dD bA bX rvC lp rg dr ex un rv
def fJ (d : aO) (w : Nat) : List Int := d.weathers.getD w []
def aZ (d : aO) (a b s : Nat) : Bool := decide ((fJ d a).take (s + 1) = (fJ d b).take (s + 1))
def aHE (d : aO) (w s : Nat) : List Int := ((List.range d.weathers.length).filter fun i => aZ d i w s).map fun (i : Nat) => (i : Int)
theorem aCa {d : aO} {a b s : Nat} : aZ d a b s = aZ d b a s := by
 unfold aZ
 exact decide_eq_decide.2 ⟨Eq.symm,Eq.symm⟩
theorem jK {d : aO} {a : Nat} (qa : a < d.weathers.length) : fJ d a = d.weathers[a] := aI qa
theorem sW {d : aO} {a b s : Nat} (ha : s < (fJ d a).length) (hb : s < (fJ d b).length) : aZ d a b s = true ↔ ∀ t,t < s + 1 → (fJ d a).getD t 0 = (fJ d b).getD t 0 := by
 rw [aZ,decide_eq_true_iff]
 constructor
 · intro e t ht
   have e1 : ((fJ d a).take (s + 1))[t]? = ((fJ d b).take (s + 1))[t]? := by rw [e]
   rw [List.getElem?_take_of_lt ht,List.getElem?_take_of_lt ht] at e1
   rw [List.getD_eq_getElem?_getD,List.getD_eq_getElem?_getD,e1]
 · intro e
   refine List.ext_getElem (by simp; omega) fun t h1 h2 => ?_
   rw [List.length_take] at h1 h2
   have := e t (by omega)
   rw [aI (by omega),aI (by omega)] at this
   simpa using this
theorem zM (d : aO) (v : bO) (a b s : Nat) (hS : DayS w0 h d v) (qa : a < d.weathers.length) (qb : b < d.weathers.length) (sa : s < (fJ d a).length) (sb : s < (fJ d b).length) (hs : s < 1000000) :
 bA Try.prog w0 46 [.agg (aX v),.int .i64 (a : Int),.int .i64 (b : Int),.int .i64 (s : Int)] h (.bool (aZ d a b s)) h := by
 refine aQ aM aJd mf46_b mf46_g (qE rfl) (by simp [AV.bdd,AV.bdds]) fun hb ha => aU ?_
 obtain ⟨o1,o2,o3,o4,o5⟩ := hS.ones
 simp only [go_sem,mf46,o1,o2,o3,o4,o5]
 refine dR (fun j => [(1,.int .i64 (a : Int)),(2,.int .i64 (b : Int)),(3,.int .i64 (s : Int)),(4,.ptr (.own h.length 0)),(9,.int .i64 j)]) (fun t => (fJ d a).getD t 0 = (fJ d b).getD t 0) (s + 1) rfl (fun j hj hi ih => ?_) (fun es => ?_)
 · refine aE aM aDP [1,2,3,4,9] L46_0.eq_1 ?_
   have i3 : (j : Int) ≤ s := by omega
   obtain ⟨p,x,p1,p2,p3⟩ := hS.weathers.at_ (j := a) qa
   obtain ⟨q,y,q1,q2,q3⟩ := hS.weathers.at_ (j := b) qb
   rw [← jK qa] at p3
   rw [← jK qb] at q3
   obtain ⟨_,u,ux,ur⟩ := SlI.use p3
   obtain ⟨_,z,zx,zr⟩ := SlI.use q3
   have ux := ux j (by omega)
   have ur := ur j (by omega)
   have zx := zx j (by omega)
   have zr := zr j (by omega)
   have p2' := p2 []
   have q2' := q2 []
   have ur' := ur []
   have zr' := zr []
   rw [List.append_nil] at p2' q2' ur' zr'
   rw [aI (by omega),aI (by omega)] at ih
   simp only [go_sem,i3,p1,p2,p2',q1,q2,q2',ux,ur,ur',zx,zr,zr']
   refine ⟨fun e => ?_,fun e => ⟨(by unfold I64; omega),ih e⟩⟩
   have : aZ d a b s = false := by
    rw [Bool.eq_false_iff]
    intro h1
    have := (sW sa sb).1 h1 j hj
    rw [aI (by omega),aI (by omega)] at this
    exact e this
   rw [this]
 refine aE aM aDP [1,2,3,4,9] L46_0.eq_1 ?_
 have x1 : ¬ ((s + 1 : Nat) : Int) ≤ s := by omega
 simp only [go_sem,x1]
 rw [(sW sa sb).2 es]
def wG (p : Nat → Bool) (n : Nat) : List Int := ((List.range n).filter p).map fun (i : Nat) => (i : Int)
theorem aCh {p : Nat → Bool} {n : Nat} : wG p (n + 1) = if p n = true then wG p n ++ [(n : Int)] else wG p n := by
 unfold wG
 rw [List.range_succ,List.filter_append]
 cases e : p n <;> simp [e]
theorem aEG {p : Nat → Bool} {n : Nat} : (wG p n).length ≤ n := by
 unfold wG
 rw [List.length_map]
 exact Nat.le_trans (List.length_filter_le _ _) (by simp)
theorem aFL (d : aO) (v : bO) (w s : Nat) (hR : gJ w0 h d v) (hw : w < d.weathers.length) (hs : ∀ i,i < d.weathers.length → s < (fJ d i).length) (hs1 : s < 1000000) :
 ACall Try.prog w0 43 [.agg (aX v),.int .i64 (w : Int),.int .i64 (s : Int)] h fun y H => aB h H ∧ SlI w0 H y (aHE d w s) := by
 refine aY aM aJe mf43_b mf43_g (qE rfl) fun hb ha => aU ?_
 obtain ⟨o1,o2,o3,o4,o5⟩ := hR.ones
 obtain ⟨l1,l2,l3,l4,l5⟩ := hR.lens
 have hn := hR.l5
 obtain ⟨K0,eK0⟩ : ∃ K0 : Heap,K0 = h ++ [some (.row (aX v))] := ⟨_,rfl⟩
 have s0 : aB h K0 := eK0 ▸ aB.refl.app
 have g0 : K0[h.length]? = some (some (.row (aX v))) := by rw [eK0]; simp
 simp only [go_sem,mf43,o1,o2,o3,o4,o5]
 change lp _ _ _ _ _ _ _ _ _ (h ++ [some (.row (aX v))])
 rw [← eK0]
 refine cM (S := Nat × Heap × AV × List Int) (F := fun x => [(1,.int .i64 (w : Int)),(2,.int .i64 (s : Int)),(3,.ptr (.own h.length 0)),(7,x.2.2.1),(8,.int .i64 x.1)]) (H := fun x => x.2.1) (meas := fun x => d.weathers.length - x.1)
  (Inv := fun x => x.1 ≤ d.weathers.length ∧ x.2.2.2 = wG (fun i => aZ d i w s) x.1 ∧ Gro K0 x.2.1 1 x.2.2.2.length x.2.2.1 (aS x.2.2.2)) (0,K0,.nilS,[]) ⟨Nat.zero_le _,rfl,Gro.nil aB.refl⟩ rfl rfl ?_
 rintro ⟨j,H,ov,out⟩ ⟨hj,ho,g⟩ ih
 simp only at hj ho g ih
 refine aE aM aLm [1,2,3,7,8] L43_0.eq_1 ?_
 have gH := g.sub.2 _ _ g0
 have bH := xL gH
 have sH := s0.trans g.sub
 have hol : out.length ≤ j := ho ▸ aEG
 rcases Nat.lt_or_ge j d.weathers.length with hjl | hjl
 · have f0 : (j : Int) < d.weathers.length := by omega
   simp only [go_sem,gH,bH,aX,l5,f0,o1,o2,o3,o4,o5]
   refine aF (zM d v w j s (hR.toDayS.sub sH) hw hjl (hs w hw) (hs j hjl) hs1).v ?_
   rw [aCa]
   have hnext := aCh (p := fun i => aZ d i w s) (n := j)
   cases e : aZ d j w s with
   | true =>
    rw [if_pos e,← ho] at hnext
    obtain ⟨G,eG,gG⟩ := (g.app (L := [some (.row [.int .i64 (j : Int)])])).more (w0 := w0) (b := 8) (k := H.length) (x := [.int .i64 (j : Int)]) (f := true) (by simp) rfl rfl (by omega) (by omega)
    simp only [go_sem,eG]
    have := ih (j + 1,G,_,out ++ [(j : Int)]) ⟨by simp only; omega,hnext.symm,by simpa [aS] using gG⟩ (by simp only; omega)
    exact ⟨(by unfold I64; omega),by simpa using this⟩
   | false =>
    rw [if_neg (by rw [e]; simp),← ho] at hnext
    simp only [go_sem]
    have := ih (j + 1,H,ov,out) ⟨by simp only; omega,hnext.symm,g⟩ (by simp only; omega)
    exact ⟨(by unfold I64; omega),by simpa using this⟩
 · have f0 : ¬ (j : Int) < d.weathers.length := by omega
   obtain rfl : j = d.weathers.length := by omega
   simp only [go_sem,gH,bH,aX,l5,f0]
   exact ⟨sH,by rw [← show out = aHE d w s from ho]; exact g.sli rfl⟩
theorem Gr2.keep {G H : Heap} {es n io : Nat} {ov : AV} {vs : List AV} (g : Gr2 G es n io ov vs) (s : ∀ c,G[io]? = some (some c) → H[io]? = some (some c)) : Gr2 H es n io ov vs := by
 rcases g with h1 | ⟨h1,h2,h3,h4⟩
 · exact .inl h1
 · exact .inr ⟨h1,h2,s _ h3,h4⟩
theorem Gr2.one {H : Heap} {es n io : Nat} {ov : AV} {vs : List AV} (g : Gr2 H es n io ov vs) : Ab.one ov = true ∧ cellsOf ov = some [ov] := by
 rcases g with ⟨_,rfl,_⟩ | ⟨_,rfl,_⟩ <;> exact ⟨rfl,rfl⟩
theorem Gro.gro1 {K H : Heap} {es n : Nat} {ov : AV} {vs : List AV} (g : Gro K H es n ov vs) : Ab.one ov = true ∧ cellsOf ov = some [ov] := by
 rcases g.own with ⟨_,rfl,_⟩ | ⟨_,_,_,rfl,_⟩ <;> exact ⟨rfl,rfl⟩
theorem Gro.at1 {K H : Heap} {es n i : Nat} {ov : AV} {vs : List AV} {b : Blk} (g : Gro K H es n ov vs) (hi : H[i]? = some (some b)) : Gro (K.set i (some b)) H es n ov vs := by
 refine ⟨⟨by rw [List.length_set]; exact g.sub.1,fun j c e => ?_⟩,?_⟩
 · by_cases e2 : i = j
   · subst e2
     rw [List.getElem?_set_self' ] at e
     cases e3 : K[i]? with
     | none => rw [e3] at e; cases e
     | some z => rw [e3] at e; cases e; exact hi
   · rw [qB e2] at e; exact g.sub.2 j c e
 · rw [List.length_set]; exact g.own
theorem Gro.unat {K H : Heap} {es n i : Nat} {ov : AV} {vs : List AV} {b : Blk} (g : Gro (K.set i (some b)) H es n ov vs) (hi : K[i]? = some none) : Gro K H es n ov vs ∧ H[i]? = some (some b) := by
 have hlt := aP hi
 refine ⟨⟨⟨by have := g.sub.1; rwa [List.length_set] at this,fun j c e => ?_⟩,?_⟩,g.sub.2 _ _ (qF hlt)⟩
 · refine g.sub.2 j c ?_
   rw [qB (fun e2 => by subst e2; rw [hi] at e; cases e)]; exact e
 · have := g.own
   rwa [List.length_set] at this
theorem Gro.setN {K H : Heap} {es n i : Nat} {ov : AV} {vs : List AV} {b : Option Blk} (g : Gro K H es n ov vs) (hi : K[i]? = some none) : Gro K (H.set i b) es n ov vs := by
 have hlt := aP hi
 refine ⟨⟨by rw [List.length_set]; exact g.sub.1,fun j c e => ?_⟩,?_⟩
 · rw [qB (fun e2 => by subst e2; rw [hi] at e; cases e)]; exact g.sub.2 j c e
 · rcases g.own with h1 | ⟨io,h1,h2,h3,h4,h5⟩
   · exact .inl h1
   · exact .inr ⟨io,h1,h2,h3,by rw [qB (by omega)]; exact h4,h5⟩
theorem Gro.slo {K H : Heap} {n : Nat} {ov : AV} {l : List Int} (g : Gro K H 1 n ov (aS l)) (hn : n = l.length) : SlO w0 H ov l := by
 refine ⟨g.sli hn,fun e => ?_⟩
 rcases g.own with ⟨_,rfl,_⟩ | ⟨io,_,h0,_⟩
 · rfl
 · subst e; exact absurd hn h0
theorem vL (d : aO) (v : bO) (hR : gJ w0 h d v) : ACall Try.prog w0 40 [.agg (aX v)] h fun y H => aB h H ∧ ∃ nv,y = .agg (stC nv) ∧ StS w0 H (bL d) nv := by
 refine aY aM aJg mf40_b mf40_g (qE rfl) fun hb ha => aU ?_
 obtain ⟨o1,o2,o3,o4,o5⟩ := hR.ones
 obtain ⟨l1,l2,l3,l4,l5⟩ := hR.lens
 have n3 := hR.l3
 have n4 := hR.l4
 obtain ⟨K0,eK0⟩ : ∃ K0 : Heap,K0 = h ++ [some (.row (aX v))] := ⟨_,rfl⟩
 have s0 : aB h K0 := eK0 ▸ aB.refl.app
 have g0 : K0[h.length]? = some (some (.row (aX v))) := by rw [eK0]; simp
 have k0 : K0.length = h.length + 1 := by rw [eK0]; simp
 have hD0 : DayS w0 K0 d v := hR.toDayS.sub s0
 simp only [go_sem,mf40,o1,o2,o3,o4,o5]
 obtain ⟨b2,eb2⟩ : ∃ b,b = h.length + 1 := ⟨_,rfl⟩
 obtain ⟨b3,eb3⟩ : ∃ b,b = h.length + 2 := ⟨_,rfl⟩
 rw [← eb2,← eb3]
 refine cM (S := Nat × Heap × AV × AV × Nat × Nat) (F := fun s => [(1,.ptr (.own h.length 0)),(2,.ptr (.own b2 0)),(3,.ptr (.own b3 0)),(4,.int .i64 s.1)]) (H := fun s => s.2.1) (meas := fun s => d.planes.length - s.1)
  (Inv := fun s => s.1 ≤ d.planes.length ∧ aB K0 s.2.1 ∧ s.2.1[b2]? = some (some (.row [.nilS,.nilS,.nilS])) ∧ s.2.1[b3]? = some (some (.row [s.2.2.1,s.2.2.2.1,.nilS])) ∧ b3 < s.2.2.2.2.1 ∧ b3 < s.2.2.2.2.2 ∧ (s.1 ≠ 0 → s.2.2.2.2.1 ≠ s.2.2.2.2.2 ∧ s.2.2.2.2.2 < s.2.1.length) ∧
   Gr2 s.2.1 1 s.1 s.2.2.2.2.1 s.2.2.1 (aS ((d.planes.take s.1).map (·.at_))) ∧ Gr2 s.2.1 1 s.1 s.2.2.2.2.2 s.2.2.2.1 (aS (List.replicate s.1 0)))
  (0,h ++ [some (.row (aX v)),some (.row [.nilS,.nilS,.nilS]),some (.row [.nilS,.nilS,.nilS])],.nilS,.nilS,b3 + 1,b3 + 1) ⟨by simp,by rw [eK0]; exact ⟨by simp,fun i b e => by rw [show h ++ [some (.row (aX v)),some (.row [.nilS,.nilS,.nilS]),some (.row [.nilS,.nilS,.nilS])] = (h ++ [some (.row (aX v))]) ++ [some (.row [.nilS,.nilS,.nilS]),some (.row [.nilS,.nilS,.nilS])] by simp]; exact aA e⟩,by rw [eb2]; simp,by rw [eb3]; simp,by simp,by simp,fun e => absurd rfl e,.inl ⟨rfl,rfl,rfl⟩,.inl ⟨rfl,rfl,rfl⟩⟩ rfl rfl ?_
 rintro ⟨j,G,pv,lv,i1,i2⟩ ⟨hj,sG,gb2,gb3,hi1,hi2,hne,g1,g2⟩ ih
 simp only at hj sG gb2 gb3 hi1 hi2 hne g1 g2 ih
 refine aE aM aLo [1,2,3,4] L40_0.eq_1 ?_
 have gG := sG.2 _ _ g0
 have bG := xL gG
 have b3G := xL gb3
 rcases Nat.lt_or_ge j d.planes.length with hjl | hjl
 · have f0 : (j : Int) < d.planes.length := by omega
   obtain ⟨p,p1,p2K⟩ := hD0.plane hjl
   have p2 : ∀ L,rdn w0 (G ++ L) p 5 = some d.planes[j].c := fun L => (sG.app (L := L)).rdn (by simpa using p2K [])
   have t0 : ∀ L,rd w0 (G ++ L) (p.add 0) = some (.int .i64 d.planes[j].at_) := fun L => cC (p2 L) rfl
   have t0' := t0 []
   rw [List.append_nil] at t0'
   simp only [go_sem,gG,bG,aX,l3,f0]
   refine yJ aM D40_0.eq_1 (by kernel_rfl) ?_
   obtain ⟨a,ea⟩ : ∃ a,a = d.planes[j].at_ := ⟨_,rfl⟩
   rw [← ea] at t0 t0'
   obtain ⟨G2,e1,e2,e3,e4⟩ := mN (w0 := w0) (b := 8) (k := G.length) (x := [.int .i64 a]) (f := true) (es := 1) (show _ from g1.keep (H := G ++ [some (.row [.int .i64 a])]) fun c e => aA e) (by simp) rfl rfl (by omega) (by omega)
   rw [List.length_append,List.length_singleton] at e1 e2 e3
   have hk2 : ∀ (i : Nat) c,(j ≠ 0 → i ≠ i1) → G[i]? = some (some c) → G2[i]? = some (some c) := fun i c hi e => e4 i c hi (aA e)
   have q3 := hk2 b3 _ (fun _ => by omega) gb3
   have q3' := xL q3
   obtain ⟨G3,a1,a2,a3,a4⟩ := mN (w0 := w0) (b := 8) (k := G2.length) (x := [.int .i64 0]) (f := true) (es := 1) (show _ from (g2.keep (H := G2) fun c e => hk2 i2 c (fun h0 => Ne.symm (hne h0).1) e).keep (H := G2 ++ [some (.row [.int .i64 0])]) fun c e => aA e) (by simp) rfl rfl (by omega) (by omega)
   rw [List.length_append,List.length_singleton] at a1 a2 a3
   have hk3 : ∀ (i : Nat) c,(j ≠ 0 → i ≠ i2) → G2[i]? = some (some c) → G3[i]? = some (some c) := fun i c hi e => a4 i c hi (aA e)
   have r3 := hk3 b3 _ (fun _ => by omega) q3
   have r3' := xL r3
   have r3l := aN r3
   have hset : ∀ r,(G3.set b3 r)[b3]? = some r := fun r => qF r3l
   simp only [go_sem,gG,bG,aX,gb3,b3G,p1,t0,t0',e1,q3,q3',a1,r3,r3',hset,List.set_set]
   refine ⟨(by unfold I64; omega),?_⟩
   have hnew1 : (d.planes.take (j + 1)).map (·.at_) = (d.planes.take j).map (·.at_) ++ [a] := by
    rw [List.take_add_one,qA hjl,Option.toList,List.map_append]; simp [ea]
   have hle : G.length ≤ G3.length := by omega
   have keepN : ∀ (i : Nat) c,(j ≠ 0 → i ≠ i1 ∧ i ≠ i2) → i ≠ b3 → G[i]? = some (some c) → ∀ r,(G3.set b3 r)[i]? = some (some c) := fun i c hi hb e r => by
    rw [qB (Ne.symm hb)]
    exact hk3 i c (fun h0 => (hi h0).2) (hk2 i c (fun h0 => (hi h0).1) e)
   have := ih (j + 1,G3.set b3 (some (.row [.sl (.own (G.length + 1) 0) (j + 1) 1 false,.sl (.own (G2.length + 1) 0) (j + 1) 1 false,.nilS])),.sl (.own (G.length + 1) 0) (j + 1) 1 false,.sl (.own (G2.length + 1) 0) (j + 1) 1 false,G.length + 1,G2.length + 1)
    ⟨by simp only; omega,⟨by simp only [List.length_set]; have := sG.1; omega,fun i c e => keepN i c (fun _ => by have := aN e; omega) (by have := aN e; omega) (sG.2 _ _ e) _⟩,keepN b2 _ (fun _ => by omega) (by omega) gb2 _,hset _,by have := aN gb3; simp only; omega,by have := aN gb3; simp only; omega,fun _ => by simp only [List.length_set]; omega,?_,?_⟩ (by simp only; omega)
   · simpa using this
   · refine .inr ⟨by simp,rfl,?_,by simp [hnew1,aS]; omega⟩
     simp only
     have hb3 : b3 < G.length := aN gb3
     rw [qB (by omega),hk3 (G.length + 1) _ (fun h0 => by have := (hne h0).2; omega) e3,hnew1]
     simp [aS]
   · refine .inr ⟨by simp,rfl,?_,by simp [aS]⟩
     simp only
     have hb3 : b3 < G.length := aN gb3
     rw [qB (by omega),a3]
     simp [aS,List.replicate_succ']
 · have f0 : ¬ (j : Int) < d.planes.length := by omega
   obtain rfl : j = d.planes.length := by omega
   simp only [go_sem,gG,bG,aX,l3,f0]
   rw [List.take_length] at g1
   obtain ⟨K1,eK1⟩ : ∃ K1 : Heap,K1 = G.set b3 none := ⟨_,rfl⟩
   have hb3 : b3 < G.length := aN gb3
   have k1l : K1.length = G.length := by rw [eK1,List.length_set]
   have sK1 : aB K0 K1 := ⟨by have := sG.1; omega,fun i c e => by rw [eK1,qB (by have := aN e; omega)]; exact sG.2 _ _ e⟩
   have xK1 : K1[b3]? = some none := by rw [eK1,qF hb3]
   have K1b2 : K1[b2]? = some (some (.row [.nilS,.nilS,.nilS])) := by rw [eK1,qB (by omega)]; exact gb2
   have K1g : K1[h.length]? = some (some (.row (aX v))) := sK1.2 _ _ g0
   have q1 : SlO w0 K1 pv (d.planes.map (·.at_)) := (g1.keep (H := K1) fun c e => by rw [eK1,qB (by omega)]; exact e).gro.slo (by simp)
   have q2 : SlO w0 K1 lv (List.replicate d.planes.length 0) := (g2.keep (H := K1) fun c e => by rw [eK1,qB (by omega)]; exact e).gro.slo (by simp)
   have q1k : SlO w0 (K1.set b2 none) pv (d.planes.map (·.at_)) := (g1.keep (H := K1.set b2 none) fun c e => by rw [eK1,qB (by omega),qB (by omega)]; exact e).gro.slo (by simp)
   have q2k : SlO w0 (K1.set b2 none) lv (List.replicate d.planes.length 0) := (g2.keep (H := K1.set b2 none) fun c e => by rw [eK1,qB (by omega),qB (by omega)]; exact e).gro.slo (by simp)
   refine cM (S := Nat × Heap × AV) (F := fun s => [(1,.ptr (.own h.length 0)),(2,.ptr (.own b2 0)),(3,.ptr (.own b3 0)),(5,.int .i64 s.1)]) (H := fun s => s.2.1) (meas := fun s => d.people.length - s.1)
    (Inv := fun s => s.1 ≤ d.people.length ∧ Gro K1 s.2.1 1 s.1 s.2.2 (aS ((d.people.take s.1).map (·.at_))) ∧ s.2.1[b3]? = some (some (.row [pv,lv,s.2.2]))) (0,G,.nilS) ⟨by simp,Gro.nil ⟨by simp only; omega,fun i c e => ?_⟩,gb3⟩ rfl rfl ?_
   · by_cases e2 : b3 = i
     · subst e2; rw [xK1] at e; cases e
     · rwa [eK1,qB e2] at e
   clear ih gG bG b3G g1 g2 gb2 gb3
   rintro ⟨j,H,qv⟩ ⟨hj,gr,gx⟩ ih
   simp only at hj gr gx ih
   refine aE aM aLn [1,2,3,5] L40_1.eq_1 ?_
   have gH := gr.sub.2 _ _ K1g
   have bH := xL gH
   have bxH := xL gx
   have o1p := q1.s.one
   have o1l := q2.s.one
   have o1q := gr.gro1
   rcases Nat.lt_or_ge j d.people.length with hjl | hjl
   · have f1 : (j : Int) < d.people.length := by omega
     obtain ⟨p,p1,p2K⟩ := hD0.person hjl
     have p2 : ∀ L,rdn w0 (H ++ L) p 5 = some d.people[j].c := fun L => ((sK1.trans gr.sub).app (L := L)).rdn (by simpa using p2K [])
     have t0 : ∀ L,rd w0 (H ++ L) (p.add 0) = some (.int .i64 d.people[j].at_) := fun L => cC (p2 L) rfl
     have t0' := t0 []
     rw [List.append_nil] at t0'
     obtain ⟨a,ea⟩ : ∃ a,a = d.people[j].at_ := ⟨_,rfl⟩
     rw [← ea] at t0 t0'
     obtain ⟨G2,eG,gG2⟩ := ((gr.at1 gx).app (L := [some (.row [.int .i64 a])])).more (w0 := w0) (b := 8) (k := H.length) (x := [.int .i64 a]) (f := true) (by simp) rfl rfl (by omega) (by omega)
     obtain ⟨gG3,gx3⟩ := gG2.unat xK1
     have gx3' := xL gx3
     simp only [go_sem,gH,bH,aX,l4,f1]
     refine yJ aM D40_1.eq_1 (by kernel_rfl) ?_
     simp only [go_sem,gH,bH,aX,gx,bxH,p1,t0,t0',eG,gx3,gx3']
     refine ⟨(by unfold I64; omega),?_⟩
     have hnew : aS ((d.people.take (j + 1)).map (·.at_)) = aS ((d.people.take j).map (·.at_)) ++ [.int .i64 a] := by
      rw [List.take_add_one,qA hjl,Option.toList,List.map_append]; simp [ea,aS]
     have := ih (j + 1,G2.set b3 (some (.row [pv,lv,.sl (.own (H.length + 1) 0) (j + 1) 1 false])),.sl (.own (H.length + 1) 0) (j + 1) 1 false) ⟨by simp only; omega,by simp only; rw [hnew]; exact (by simpa using gG3.setN xK1),qF (aN gx3)⟩ (by simp only; omega)
     simpa using this
   · have f1 : ¬ (j : Int) < d.people.length := by omega
     obtain rfl : j = d.people.length := by omega
     have hb2 := gr.sub.2 _ _ K1b2
     have hb2' := xL hb2
     have hs2 : ∀ r,(H.set b2 r)[b2]? = some r := fun r => qF (aN hb2)
     simp only [go_sem,gH,bH,aX,l4,f1,gx,bxH,hb2,hb2',hs2,o1p.1,o1l.1,o1q.1,o1p.2,o1l.2,o1q.2]
     have sK2 : aB h (K1.set b2 none) := ⟨by have := s0.1; have := sK1.1; rw [List.length_set]; omega,fun i c e => by rw [qB (by have := aN e; omega)]; exact sK1.2 _ _ (s0.2 _ _ e)⟩
     have sH : ∀ r,aB (K1.set b2 none) (H.set b2 r) := fun r => ⟨by rw [List.length_set,List.length_set]; exact gr.sub.1,fun i c e => by
      by_cases e2 : b2 = i
      · subst e2; rw [qF (aN K1b2)] at e; cases e
      · rw [qB e2] at e ⊢; exact gr.sub.2 _ _ e⟩
     rw [List.take_length] at gr
     refine ⟨sK2.trans (sH _),⟨pv,lv,qv⟩,rfl,?_,?_,?_⟩
     · exact q1k.sub (sH _)
     · exact q2k.sub (sH _)
     · have g4 : Gro K0 (H.set b2 (some (.row [pv,lv,qv]))) 1 d.people.length qv (aS (d.people.map (·.at_))) := by
        refine ⟨⟨by rw [List.length_set]; have := sK1.1; have := gr.sub.1; omega,fun i c e => by rw [qB (by have := aN e; omega)]; exact gr.sub.2 _ _ (sK1.2 _ _ e)⟩,?_⟩
        rcases gr.own with h1 | ⟨io,h1,h2,h3,h4,h5⟩
        · exact .inl h1
        · have := sK1.1
          exact .inr ⟨io,by omega,h2,h3,by rw [qB (by omega)]; exact h4,h5⟩
       exact g4.slo (by simp)
theorem aCm {l : List Int} {j : Nat} {p : Int} (hj : j < l.length) : (l.take (j + 1)).count p = (l.take j).count p + if l[j] = p then 1 else 0 := by
 rw [List.take_add_one,qA hj,List.count_append,Option.toList,List.count_singleton]
 simp
theorem yK (d : aO) (v : bO) (s : aD) (pv : AV) (hS : DayS w0 h d v) (hp : SlI w0 h pv s.planes) (hl : d.places.length ≤ 50) (hn : s.planes.length < 1000000) : bA Try.prog w0 85 [.agg (aX v),pv] h (.bool ((List.range d.places.length).any (eJ d s))) h := by
 refine aQ aM aIQ mf85_b mf85_g (qE rfl) (by simp [AV.bdd,AV.bdds]) fun hb ha => aU ?_
 obtain ⟨o1,o2,o3,o4,o5⟩ := hS.ones
 obtain ⟨l1,l2,l3,l4,l5⟩ := hS.lens
 obtain ⟨lp,q,qi,qr⟩ := SlI.use hp
 simp only [go_sem,mf85,o1,o2,o3,o4,o5]
 refine dR (fun j => [(1,pv),(2,.ptr (.own h.length 0)),(5,.int .i64 j)]) (fun j => eJ d s j = false) d.places.length rfl (fun j hj hall ih => ?_) (fun es => ?_)
 · refine aE aM aDw [1,2,5] L85_1.eq_1 ?_
   have i3 : (j : Int) < d.places.length := by omega
   obtain ⟨p,p1,p2⟩ := hS.place hj
   have t0 : ∀ L,rd w0 (h ++ L) (p.add 0) = some (.int .i64 d.places[j].berths) := fun L => cC (p2 L) rfl
   have t0' := t0 []
   rw [List.append_nil] at t0'
   simp only [go_sem,l1,i3]
   refine cU (S := Unit) (fun i _ => [(1,pv),(2,.ptr (.own h.length 0)),(5,.int .i64 j),(6,.int .i64 ((s.planes.take i).count (j : Int) : Nat)),(7,.int .i64 (i : Int))]) (fun _ _ => h ++ [some (.row (aX v))]) (fun _ _ => True) s.planes.length () trivial (by simp) rfl (fun i _ hi _ ih2 => ?_) (fun _ _ => ?_)
   · refine aE aM aDx [1,2,5,6,7] L85_0.eq_1 ?_
     have i4 : (i : Int) < s.planes.length := by omega
     have r0 := qi i hi
     have r1 := qr i hi
     have hct := aCm (l := s.planes) (j := i) (p := (j : Int)) hi
     have hcl : (s.planes.take i).count (j : Int) ≤ i := Nat.le_trans List.count_le_length (by rw [List.length_take]; omega)
     simp only [go_sem,lp,i4,r0,r1]
     refine ⟨fun e => ?_,fun e => ?_⟩
     · rw [if_pos e] at hct
       refine ⟨(by unfold I64; omega),(by unfold I64; omega),?_⟩
       have := ih2 () trivial
       rw [hct] at this
       simpa [aX] using this
     · rw [if_neg e] at hct
       refine ⟨(by unfold I64; omega),?_⟩
       have := ih2 () trivial
       rw [hct] at this
       simpa [aX] using this
   · refine aE aM aDx [1,2,5,6,7] L85_0.eq_1 ?_
     have i4 : ¬ (s.planes.length : Int) < s.planes.length := by omega
     simp only [go_sem,lp,i4,p1,t0,t0',aX]
     rw [List.take_length]
     have hc : eJ d s j = decide (d.places[j].berths < s.planes.count (j : Int)) := by rw [eJ,aI hj]
     refine ⟨fun e => ?_,fun e => ⟨(by unfold I64; omega),ih (by rw [hc]; exact decide_eq_false e)⟩⟩
     have : (List.range d.places.length).any (eJ d s) = true := List.any_eq_true.2 ⟨j,List.mem_range.2 hj,by rw [hc]; exact decide_eq_true e⟩
     rw [this]
 refine aE aM aDw [1,2,5] L85_1.eq_1 ?_
 have x1 : ¬ (d.places.length : Int) < d.places.length := by omega
 simp only [go_sem,l1,x1]
 have : (List.range d.places.length).any (eJ d s) = false := List.any_eq_false.2 fun x hx => by simp [es x (List.mem_range.1 hx)]
 rw [this]
theorem aK1 {n : Nat} {l : List Int} {p : cL} (hp : cP n p.at_ = true) (hl : l.length = n) {j : Nat} (hj : j < n) : (oC n l p).getD j 0 = l.getD j 0 + if p.at_ = (j : Int) then 1 else 0 := by
 have hb := pV.1 hp
 rw [oC,if_pos hp]
 by_cases e : p.at_ = (j : Int)
 · rw [if_pos e,e,Int.toNat_natCast,aI (by simpa using (by omega : j < l.length))]
   simp
 · rw [if_neg e,Int.add_zero]
   simp only [List.getD_eq_getElem?_getD]
   rw [qB (by omega)]
theorem yL {d : aO} {j : Nat} : eJ d (bL d) j = decide ((d.places.getD j ⟨0,false⟩).berths < ((d.planes.map (·.at_)).count (j : Int) : Nat)) := rfl
theorem wN {n : Nat} {l : List cL} (hl : ∀ p ∈ l,cP n p.at_ = true) {j : Nat} (hj : j < n) : (qP n l).getD j 0 = ((l.map (·.at_)).count (j : Int) : Nat) := by
 have : ∀ (l : List cL) (c : List Int),(∀ p ∈ l,cP n p.at_ = true) → c.length = n → (l.foldl (oC n) c).getD j 0 = c.getD j 0 + ((l.map (·.at_)).count (j : Int) : Nat) := by
  intro l
  induction l with
  | nil => intro c _ _; simp
  | cons p l ih =>
   intro c hp hc
   rw [List.foldl_cons,ih _ (fun q hq => hp q (List.mem_cons_of_mem _ hq)) (by rw [aA5,hc]),aK1 (hp p (List.mem_cons_self)) hc hj,List.map_cons,List.count_cons]
   by_cases e : p.at_ = (j : Int)
   · simp [e]; omega
   · simp [e]
 rw [qP,this l _ hl (by simp),List.getD_eq_getElem?_getD]
 simp [hj]
structure DaySp (d : aO) : Prop where
 n : inB d.places.length 1 5 = true
 l : d.links.length ≤ 20
 p : d.planes.length ≤ 2
 q : d.people.length ≤ 4
 w : inB d.weathers.length 1 6 = true
 s : inB (aJ d) 1 5 = true
 br : ∀ j,j < d.places.length → inB (d.places.getD j ⟨0,false⟩).berths 0 2 = true
 lk : ∀ j,j < d.links.length → (cP d.places.length (d.links.getD j ⟨0,0⟩).one = true ∧ cP d.places.length (d.links.getD j ⟨0,0⟩).other = true ∧ (d.links.getD j ⟨0,0⟩).one ≠ (d.links.getD j ⟨0,0⟩).other) ∧ ∀ k,k < j → eD (d.links.getD k ⟨0,0⟩) (d.links.getD j ⟨0,0⟩) = false
 pn : ∀ j,j < d.planes.length → eZ d.places.length (d.planes.getD j ⟨0,0,0,0,0⟩) = true
 pe : ∀ j,j < d.people.length → dT d.places.length (d.people.getD j ⟨0,0,0,0,0⟩) = true
 we : ∀ j,j < d.weathers.length → (fJ d j).length = aJ d ∧ ∀ t,t < (fJ d j).length → uI d.places.length ((fJ d j).getD t 0) = true
 cr : (List.range d.places.length).any (eJ d (bL d)) = false
theorem aBj {l : List cG} {j : Nat} (hj : j ≤ l.length) {f : cG → Bool} : (l.take j).any f = false ↔ ∀ k,k < j → f (l.getD k ⟨0,0⟩) = false := by
 rw [List.any_eq_false]
 constructor
 · intro h k hk
   have := h (l.getD k ⟨0,0⟩) (by rw [aI (by omega)]; exact List.mem_take_iff_getElem.2 ⟨k,by omega,rfl⟩)
   simpa using this
 · intro h x hx
   obtain ⟨k,hk,rfl⟩ := List.mem_take_iff_getElem.1 hx
   have := h k (by omega)
   rw [aI (by omega)] at this
   simpa using this
theorem lQ {d : aO} : eE d = true ↔ DaySp d := by
 have hpl : ∀ p : cL,eZ d.places.length p = true → cP d.places.length p.at_ = true := fun p h => by
  simp only [eZ,Bool.and_eq_true] at h; exact h.1
 have hW : ∀ j,j < d.weathers.length → d.weathers.getD j [] = fJ d j := fun j _ => rfl
 constructor
 · intro e
   have dg := gT e
   simp only [eE,Bool.and_eq_true,decide_eq_true_eq,← dN (x := (⟨0,0,0,0,0⟩ : cL)),← dN (x := (⟨0,0,0,0,0⟩ : dF)),← dN (x := ([] : List Int)),cR] at e
   obtain ⟨e1,e2,e3,e4,e5,e6,e7,e8,e9,e10⟩ := e
   refine ⟨e1,e2,e3,e4,e5,?_,fun j hj => ?_,fun j hj => ?_,e6,e7,fun j hj => ?_,?_⟩
   · have := dg.s0; have := dg.s1; simp [inB]; omega
   · have := e10 j hj; simp only [nD,Bool.and_eq_true] at this; exact this.1
   · have := e8 j hj
     simp only [rR,Bool.and_eq_true,decide_eq_true_eq,Bool.not_eq_true'] at this
     exact ⟨⟨this.1,this.2.1,this.2.2.1⟩,(aBj (by omega)).1 this.2.2.2⟩
   · have := e9 j hj
     simp only [eV,Bool.and_eq_true,decide_eq_true_eq,← dN (x := (0 : Int)),cR] at this
     exact this.2
   · rw [List.any_eq_false]
     intro j hj
     have hj := List.mem_range.1 hj
     have := e10 j hj
     simp only [nD,Bool.and_eq_true,decide_eq_true_eq] at this
     have hc := wN (n := d.places.length) (l := d.planes) (fun p hp => by
      obtain ⟨i,hi,rfl⟩ := List.getElem_of_mem hp
      have := e6 i hi
      rw [aI hi] at this; exact hpl _ this) hj
     rw [hc] at this
     rw [yL,decide_eq_true_eq]
     omega
 · intro s
   have hs := s.s
   simp only [eE,Bool.and_eq_true,decide_eq_true_eq,← dN (x := (⟨0,0,0,0,0⟩ : cL)),← dN (x := (⟨0,0,0,0,0⟩ : dF)),← dN (x := ([] : List Int)),cR]
   refine ⟨s.n,s.l,s.p,s.q,s.w,s.pn,s.pe,fun j hj => ?_,fun j hj => ?_,fun j hj => ?_⟩
   · obtain ⟨⟨h1,h2,h3⟩,h4⟩ := s.lk j hj
     simp only [rR,Bool.and_eq_true,decide_eq_true_eq,Bool.not_eq_true']
     exact ⟨h1,h2,h3,(aBj (by omega)).2 h4⟩
   · obtain ⟨h1,h2⟩ := s.we j hj
     simp only [eV,Bool.and_eq_true,decide_eq_true_eq,← dN (x := (0 : Int)),cR]
     exact ⟨by rw [hW j hj,h1]; exact hs,h1,h2⟩
   · have hc := wN (n := d.places.length) (l := d.planes) (fun p hp => by
      obtain ⟨i,hi,rfl⟩ := List.getElem_of_mem hp
      have := s.pn i hi
      rw [aI hi] at this; exact hpl _ this) hj
     have h2 := List.any_eq_false.1 s.cr j (List.mem_range.2 hj)
     rw [yL,decide_eq_true_eq] at h2
     simp only [nD,Bool.and_eq_true,decide_eq_true_eq,hc]
     exact ⟨s.br j hj,by omega⟩
theorem gR {d : aO} (h : ¬ DaySp d) : eE d = false := by
 rw [Bool.eq_false_iff]; exact fun e => h (lQ.1 e)
theorem aB1 (d : aO) (v : bO) (hR : gJ w0 h d v) : bA Try.prog w0 32 [.agg (aX v)] h (.bool (eE d)) h := by
 refine nF trivial (aY aM aJm mf32_b mf32_g (qE rfl) fun hb ha => aU ?_)
 obtain ⟨o1,o2,o3,o4,o5⟩ := hR.ones
 obtain ⟨l1,l2,l3,l4,l5⟩ := hR.lens
 have n1 := hR.l1
 have n2 := hR.l2
 have n3 := hR.l3
 have n4 := hR.l4
 have n5 := hR.l5
 obtain ⟨K0,eK0⟩ : ∃ K0 : Heap,K0 = h ++ [some (.row (aX v))] := ⟨_,rfl⟩
 have s0 : aB h K0 := eK0 ▸ aB.refl.app
 have g0 : K0[h.length]? = some (some (.row (aX v))) := by rw [eK0]; simp
 have b0 := xL g0
 have hR0 := hR.sub s0
 simp only [go_sem,mf32,o1,o2,o3,o4,o5]
 rw [show h ++ [some (Blk.row [v.pl,v.ln,v.pn,v.pe,v.we])] = K0 by rw [eK0]; rfl]
 simp only [go_sem,g0,b0,aX,l1,l2,l3,l4,l5]
 refine aF (jP _ _ _).v ?_
 cases c1 : inB d.places.length 1 5 with
 | false =>
  simp only [go_sem]
  exact ⟨s0,by rw [gR fun s => by rw [s.n] at c1; cases c1]⟩
 | true =>
 by_cases c2 : (20 : Int) < d.links.length
 · simp only [go_sem,g0,b0,aX,l1,l2,l3,l4,l5,c2]
   exact ⟨s0,by rw [gR fun s => by have := s.l; omega]⟩
 by_cases c3 : (2 : Int) < d.planes.length
 · simp only [go_sem,g0,b0,aX,l1,l2,l3,l4,l5,c2,c3]
   exact ⟨s0,by rw [gR fun s => by have := s.p; omega]⟩
 by_cases c4 : (4 : Int) < d.people.length
 · simp only [go_sem,g0,b0,aX,l1,l2,l3,l4,l5,c2,c3,c4]
   exact ⟨s0,by rw [gR fun s => by have := s.q; omega]⟩
 simp only [go_sem,g0,b0,aX,l1,l2,l3,l4,l5,c2,c3,c4]
 refine aF (jP _ _ _).v ?_
 cases c5 : inB d.weathers.length 1 6 with
 | false =>
  simp only [go_sem]
  exact ⟨s0,by rw [gR fun s => by rw [s.w] at c5; cases c5]⟩
 | true =>
 have hw0 : 0 < d.weathers.length := by simp only [inB,Bool.and_eq_true,decide_eq_true_eq] at c5; omega
 obtain ⟨pw,xw,w1,w2,w3⟩ := hR0.weathers.at_ (j := 0) hw0
 have l6 := (SlI.use w3).1
 rw [zO (x := []) hw0] at l6
 change _ = some (AV.int .i64 (aJ d : Nat)) at l6
 have w2' := w2 []
 rw [List.append_nil] at w2'
 simp only [go_sem,g0,b0,aX,l5,w1,w2,w2',l6]
 refine aF (jP _ _ _).v ?_
 cases c6 : inB (aJ d) 1 5 with
 | false =>
  simp only [go_sem]
  exact ⟨s0,by rw [gR fun s => by rw [s.s] at c6; cases c6]⟩
 | true =>
 simp only [go_sem]
 have c6' := c6
 simp only [inB,Bool.and_eq_true,decide_eq_true_eq] at c1 c6'
 refine dR (fun j => [(1,.ptr (.own h.length 0)),(3,.int .i64 (d.places.length : Int)),(4,.int .i64 j)]) (fun j => inB (d.places.getD j ⟨0,false⟩).berths 0 2 = true) d.places.length rfl (fun j hj hall ih => ?_) (fun f1 => ?_)
 · refine aE aM aDV [1,3,4] L32_0.eq_1 ?_
   have i3 : (j : Int) < d.places.length := by omega
   obtain ⟨p,p1,p2⟩ := hR0.toDayS.place hj
   have t0 : ∀ L,rd w0 (K0 ++ L) (p.add 0) = some (.int .i64 d.places[j].berths) := fun L => cC (p2 L) rfl
   have t0' := t0 []
   rw [List.append_nil] at t0'
   rw [aI hj] at ih
   simp only [go_sem,i3,g0,b0,aX,p1,t0,t0']
   refine aF (jP _ _ _).v ?_
   cases e : inB d.places[j].berths 0 2 with
   | false =>
    simp only [go_sem]
    exact ⟨s0,by rw [gR fun s => by have := s.br j hj; rw [aI hj,e] at this; cases this]⟩
   | true =>
    simp only [go_sem]
    exact ⟨(by unfold I64; omega),ih e⟩
 refine aE aM aDV [1,3,4] L32_0.eq_1 ?_
 have x1 : ¬ (d.places.length : Int) < d.places.length := by omega
 simp only [go_sem,x1]
 have hin : ∀ x : Int,inB x 0 ((d.places.length : Int) - 1) = cP d.places.length x := fun x => rfl
 refine cM (S := Nat × Heap) (F := fun s => [(1,.ptr (.own h.length 0)),(3,.int .i64 (d.places.length : Int)),(5,.int .i64 s.1)]) (H := fun s => s.2) (meas := fun s => d.links.length - s.1)
  (Inv := fun s => s.1 ≤ d.links.length ∧ aB K0 s.2 ∧ ∀ j,j < s.1 → (cP d.places.length (d.links.getD j ⟨0,0⟩).one = true ∧ cP d.places.length (d.links.getD j ⟨0,0⟩).other = true ∧ (d.links.getD j ⟨0,0⟩).one ≠ (d.links.getD j ⟨0,0⟩).other) ∧ ∀ k,k < j → eD (d.links.getD k ⟨0,0⟩) (d.links.getD j ⟨0,0⟩) = false)
  (0,K0) ⟨Nat.zero_le _,aB.refl,fun j hj => absurd hj (by simp)⟩ rfl rfl ?_
 rintro ⟨j,G⟩ ⟨hj,sG,f2⟩ ih
 simp only at hj sG f2 ih
 refine aE aM aLu [1,3,5] L32_2.eq_1 ?_
 have gG := sG.2 _ _ g0
 have bG := xL gG
 rcases Nat.lt_or_ge j d.links.length with hjl | hjl
 · have i3 : (j : Int) < d.links.length := by omega
   obtain ⟨p,p1,p2K⟩ := hR0.toDayS.link hjl
   have p2 : ∀ L,rdn w0 (G ++ L) p 2 = some d.links[j].c := fun L => (sG.app (L := L)).rdn (by simpa using p2K [])
   have p2' := p2 []
   rw [List.append_nil] at p2'
   obtain ⟨g,eg⟩ : ∃ g,g = d.links[j] := ⟨_,rfl⟩
   rw [← eg] at p2 p2'
   have og : g.c.all one = true := rfl
   have eg2 : d.links.getD j ⟨0,0⟩ = g := by rw [aI hjl,eg]
   have sG2 : aB K0 (G ++ [some (.row g.c)]) := sG.app
   simp only [go_sem,gG,bG,aX,l2,i3,p1,p2,p2',cG.c,og]
   refine ⟨(by unfold I64; omega),?_⟩
   refine aF (jP _ _ _).v ?_
   rw [hin]
   cases e1 : cP d.places.length g.one with
   | false =>
    simp only [go_sem]
    exact ⟨s0.trans sG2,by rw [gR fun s => by have := (s.lk j hjl).1.1; rw [eg2,e1] at this; cases this]⟩
   | true =>
   simp only [go_sem]
   refine ⟨(by unfold I64; omega),?_⟩
   refine aF (jP _ _ _).v ?_
   rw [hin]
   cases e2 : cP d.places.length g.other with
   | false =>
    simp only [go_sem]
    exact ⟨s0.trans sG2,by rw [gR fun s => by have := (s.lk j hjl).1.2.1; rw [eg2,e2] at this; cases this]⟩
   | true =>
   by_cases e3 : g.one = g.other
   · simp only [go_sem,e3]
     exact ⟨s0.trans sG.app,by rw [gR fun s => by have := (s.lk j hjl).1.2.2; rw [eg2] at this; exact this e3]⟩
   simp only [go_sem,e3]
   obtain ⟨b6,eb6⟩ : ∃ b,b = G.length := ⟨_,rfl⟩
   rw [← eb6]
   have g6 : (G ++ [some (.row g.c)])[b6]? = some (some (.row g.c)) := by rw [eb6]; simp
   refine cM (S := Nat × Heap) (F := fun s => [(1,.ptr (.own h.length 0)),(3,.int .i64 (d.places.length : Int)),(5,.int .i64 j),(6,.ptr (.own b6 0)),(7,.int .i64 s.1)]) (H := fun s => s.2) (meas := fun s => j - s.1)
    (Inv := fun s => s.1 ≤ j ∧ aB (G ++ [some (.row g.c)]) s.2 ∧ ∀ k,k < s.1 → eD (d.links.getD k ⟨0,0⟩) g = false) (0,G ++ [some (.row g.c)]) ⟨Nat.zero_le _,aB.refl,fun k hk => absurd hk (by simp)⟩ rfl rfl ?_
   rintro ⟨k,H⟩ ⟨hk,sH,f3⟩ ih2
   simp only at hk sH f3 ih2
   refine aE aM aLv [1,3,5,6,7] L32_1.eq_1 ?_
   have sKH : aB K0 H := sG2.trans sH
   have gH := sKH.2 _ _ g0
   have bH := xL gH
   have q6 := sH.2 _ _ g6
   have q6' := xL q6
   rcases Nat.lt_or_ge k j with hkl | hkl
   · have i4 : (k : Int) < j := by omega
     have hkl2 : k < d.links.length := by omega
     obtain ⟨p',p1',p2K'⟩ := hR0.toDayS.link hkl2
     have u2 : ∀ L,rdn w0 (H ++ L) p' 2 = some d.links[k].c := fun L => (sKH.app (L := L)).rdn (by simpa using p2K' [])
     have u2' := u2 []
     rw [List.append_nil] at u2'
     obtain ⟨m,em⟩ : ∃ m,m = d.links[k] := ⟨_,rfl⟩
     rw [← em] at u2 u2'
     have om : m.c.all one = true := rfl
     have em2 : d.links.getD k ⟨0,0⟩ = m := by rw [aI hkl2,em]
     have hls : eD m g = ((decide (m.one = g.one) && decide (m.other = g.other)) || (decide (m.one = g.other) && decide (m.other = g.one))) := by
      rw [eD]; cases m; cases g; simp [cG.mk.injEq]
     have hno : eD m g = true → eE d = false := fun e => gR fun s => by
      have := (s.lk j hjl).2 k hkl
      rw [eg2,em2,e] at this; cases this
     have hyes : eD m g = false → lp Try.prog w0 none 273 (List.length h) (resK w0 [RV.t 2] fun v' h' => aB h h' ∧ v' = AV.bool (eE d)) L32_1 _ [(1,.ptr (.own h.length 0)),(3,.int .i64 (d.places.length : Int)),(5,.int .i64 j),(6,.ptr (.own b6 0)),(7,.int .i64 ((k : Int) + 1))] (H ++ [some (.row m.c)]) := fun e => by
      have := ih2 (k + 1,H ++ [some (.row m.c)]) ⟨by simp only; omega,sH.app,fun q hq => by
       simp only at hq
       rcases Nat.lt_or_ge q k with h1 | h1
       · exact f3 q h1
       · obtain rfl : q = k := by omega
         rw [em2]; exact e⟩ (by simp only; omega)
      simpa using this
     rw [hls] at hno hyes
     by_cases a1 : m.one = g.one
     · by_cases a2 : m.other = g.other
       · simp only [go_sem,gH,bH,aX,i4,p1',u2,u2',cG.c,om,q6,q6',a1,a2]
         exact ⟨s0.trans sKH.app,by rw [hno (by simp [a1,a2])]⟩
       · by_cases a3 : g.one = g.other
         · exact absurd a3 e3
         · simp only [go_sem,gH,bH,aX,i4,p1',u2,u2',cG.c,om,q6,q6',a1,a2,a3]
           exact ⟨(by unfold I64; omega),by have := hyes (by simp [a1,a2,a3]); simpa [cG.c,a1] using this⟩
     · by_cases a3 : m.one = g.other
       · by_cases a4 : m.other = g.one
         · simp only [go_sem,gH,bH,aX,i4,p1',u2,u2',cG.c,om,q6,q6',a1,a3,a4]
           have hh : ∀ L,aB h (H ++ L) := fun L => s0.trans sKH.app
           rw [hno (by simp [a3,a4])]
           exact ⟨fun _ => ⟨fun _ => ⟨hh _,rfl⟩,fun _ => ⟨hh _,rfl⟩⟩,fun _ => ⟨hh _,rfl⟩⟩
         · simp only [go_sem,gH,bH,aX,i4,p1',u2,u2',cG.c,om,q6,q6',a1,a3,a4]
           exact ⟨fun e => absurd (a3.trans e) a1,fun _ => ⟨(by unfold I64; omega),by have := hyes (by simp [a1,a4]); simpa [cG.c,a3] using this⟩⟩
       · simp only [go_sem,gH,bH,aX,i4,p1',u2,u2',cG.c,om,q6,q6',a1,a3]
         exact ⟨(by unfold I64; omega),by have := hyes (by simp [a1,a3]); simpa [cG.c] using this⟩
   · have i4 : ¬ (k : Int) < j := by omega
     obtain rfl : k = j := by omega
     simp only [go_sem,i4]
     have := ih (k + 1,H) ⟨by simp only; omega,sKH,fun q hq => by
      simp only at hq
      rcases Nat.lt_or_ge q k with h1 | h1
      · exact f2 q h1
      · obtain rfl : q = k := by omega
        rw [eg2]; exact ⟨⟨e1,e2,e3⟩,f3⟩⟩ (by simp only; omega)
     exact ⟨(by unfold I64; omega),by simpa using this⟩
 · have i3 : ¬ (j : Int) < d.links.length := by omega
   obtain rfl : j = d.links.length := by omega
   simp only [go_sem,gG,bG,aX,l2,i3]
   clear ih gG bG
   refine cM (S := Nat × Heap) (F := fun s => [(1,.ptr (.own h.length 0)),(3,.int .i64 (d.places.length : Int)),(9,.int .i64 s.1)]) (H := fun s => s.2) (meas := fun s => d.planes.length - s.1)
    (Inv := fun s => s.1 ≤ d.planes.length ∧ aB K0 s.2 ∧ ∀ j,j < s.1 → eZ d.places.length (d.planes.getD j ⟨0,0,0,0,0⟩) = true)
    (0,G) ⟨Nat.zero_le _,sG,fun j hj => absurd hj (by simp)⟩ rfl rfl ?_
   clear sG
   rintro ⟨j,G⟩ ⟨hj,sG,f3⟩ ih
   simp only at hj sG f3 ih
   refine aE aM aLt [1,3,9] L32_3.eq_1 ?_
   have gG := sG.2 _ _ g0
   have bG := xL gG
   rcases Nat.lt_or_ge j d.planes.length with hjl | hjl
   · have i3 : (j : Int) < d.planes.length := by omega
     obtain ⟨p,p1,p2K⟩ := hR0.toDayS.plane hjl
     have p2 : ∀ L,rdn w0 (G ++ L) p 5 = some d.planes[j].c := fun L => (sG.app (L := L)).rdn (by simpa using p2K [])
     have p2' := p2 []
     rw [List.append_nil] at p2'
     obtain ⟨g,eg⟩ : ∃ g,g = d.planes[j] := ⟨_,rfl⟩
     rw [← eg] at p2 p2'
     have og : g.c.all one = true := rfl
     have eg2 : d.planes.getD j ⟨0,0,0,0,0⟩ = g := by rw [aI hjl,eg]
     have sG2 : aB h (G ++ [some (.row g.c)]) := s0.trans sG.app
     have hno : eZ d.places.length g = false → eE d = false := fun e => gR fun s => by
      have := s.pn j hjl
      rw [eg2,e] at this; cases this
     simp only [go_sem,gG,bG,aX,l3,i3,p1,p2,p2',cL.c,og]
     refine ⟨(by unfold I64; omega),?_⟩
     refine aF (jP _ _ _).v ?_
     rw [hin]
     cases e1 : cP d.places.length g.at_ with
     | false =>
      simp only [go_sem]
      exact ⟨sG2,by rw [hno (by simp [eZ,e1])]⟩
     | true =>
     simp only [go_sem]
     refine ⟨(by unfold I64; omega),?_⟩
     refine aF (jP _ _ _).v ?_
     rw [hin]
     cases e2 : cP d.places.length g.home with
     | false =>
      simp only [go_sem]
      exact ⟨sG2,by rw [hno (by simp [eZ,e2])]⟩
     | true =>
     simp only [go_sem]
     refine aF (jP _ _ _).v ?_
     cases e3 : inB g.seats 0 20 with
     | false =>
      simp only [go_sem]
      exact ⟨sG2,by rw [hno (by simp [eZ,e3])]⟩
     | true =>
     simp only [go_sem]
     refine aF (jP _ _ _).v ?_
     cases e4 : inB g.duty 0 20 with
     | false =>
      simp only [go_sem]
      exact ⟨sG2,by rw [hno (by simp [eZ,e4])]⟩
     | true =>
     simp only [go_sem]
     refine aF (jP _ _ _).v ?_
     cases e5 : inB g.away 0 1000000 with
     | false =>
      simp only [go_sem]
      exact ⟨sG2,by rw [hno (by simp [eZ,e5])]⟩
     | true =>
     simp only [go_sem]
     have := ih (j + 1,G ++ [some (.row g.c)]) ⟨by simp only; omega,sG.app,fun q hq => by
      simp only at hq
      rcases Nat.lt_or_ge q j with h1 | h1
      · exact f3 q h1
      · obtain rfl : q = j := by omega
        rw [eg2]; simp [eZ,e1,e2,e3,e4,e5]⟩ (by simp only; omega)
     exact ⟨(by unfold I64; omega),by simpa [cL.c] using this⟩
   have i3 : ¬ (j : Int) < d.planes.length := by omega
   obtain rfl : j = d.planes.length := by omega
   simp only [go_sem,gG,bG,aX,l3,i3]
   clear ih gG bG
   refine cM (S := Nat × Heap) (F := fun s => [(1,.ptr (.own h.length 0)),(3,.int .i64 (d.places.length : Int)),(11,.int .i64 s.1)]) (H := fun s => s.2) (meas := fun s => d.people.length - s.1)
    (Inv := fun s => s.1 ≤ d.people.length ∧ aB K0 s.2 ∧ ∀ j,j < s.1 → dT d.places.length (d.people.getD j ⟨0,0,0,0,0⟩) = true)
    (0,G) ⟨Nat.zero_le _,sG,fun j hj => absurd hj (by simp)⟩ rfl rfl ?_
   clear sG
   rintro ⟨j,G⟩ ⟨hj,sG,f4⟩ ih
   simp only at hj sG f4 ih
   refine aE aM aLs [1,3,11] L32_4.eq_1 ?_
   have gG := sG.2 _ _ g0
   have bG := xL gG
   rcases Nat.lt_or_ge j d.people.length with hjl | hjl
   · have i3 : (j : Int) < d.people.length := by omega
     obtain ⟨p,p1,p2K⟩ := hR0.toDayS.person hjl
     have p2 : ∀ L,rdn w0 (G ++ L) p 5 = some d.people[j].c := fun L => (sG.app (L := L)).rdn (by simpa using p2K [])
     have p2' := p2 []
     rw [List.append_nil] at p2'
     obtain ⟨g,eg⟩ : ∃ g,g = d.people[j] := ⟨_,rfl⟩
     rw [← eg] at p2 p2'
     have og : g.c.all one = true := rfl
     have eg2 : d.people.getD j ⟨0,0,0,0,0⟩ = g := by rw [aI hjl,eg]
     have sG2 : aB h (G ++ [some (.row g.c)]) := s0.trans sG.app
     have hno : dT d.places.length g = false → eE d = false := fun e => gR fun s => by
      have := s.pe j hjl
      rw [eg2,e] at this; cases this
     simp only [go_sem,gG,bG,aX,l4,i3,p1,p2,p2',dF.c,og]
     refine ⟨(by unfold I64; omega),?_⟩
     refine aF (jP _ _ _).v ?_
     rw [hin]
     cases e1 : cP d.places.length g.at_ with
     | false =>
      simp only [go_sem]
      exact ⟨sG2,by rw [hno (by simp [dT,e1])]⟩
     | true =>
     simp only [go_sem]
     refine ⟨(by unfold I64; omega),?_⟩
     refine aF (jP _ _ _).v ?_
     rw [hin]
     cases e2 : cP d.places.length g.to with
     | false =>
      simp only [go_sem]
      exact ⟨sG2,by rw [hno (by simp [dT,e2])]⟩
     | true =>
     simp only [go_sem]
     refine aF (jP _ _ _).v ?_
     cases e3 : inB g.seats 1 20 with
     | false =>
      simp only [go_sem]
      exact ⟨sG2,by rw [hno (by simp [dT,e3])]⟩
     | true =>
     simp only [go_sem]
     refine aF (jP _ _ _).v ?_
     cases e4 : inB g.strand 0 1000000 with
     | false =>
      simp only [go_sem]
      exact ⟨sG2,by rw [hno (by simp [dT,e4])]⟩
     | true =>
     simp only [go_sem]
     refine aF (jP _ _ _).v ?_
     cases e5 : inB g.lodged 0 1000000 with
     | false =>
      simp only [go_sem]
      exact ⟨sG2,by rw [hno (by simp [dT,e5])]⟩
     | true =>
     simp only [go_sem]
     have := ih (j + 1,G ++ [some (.row g.c)]) ⟨by simp only; omega,sG.app,fun q hq => by
      simp only at hq
      rcases Nat.lt_or_ge q j with h1 | h1
      · exact f4 q h1
      · obtain rfl : q = j := by omega
        rw [eg2]; simp [dT,e1,e2,e3,e4,e5]⟩ (by simp only; omega)
     exact ⟨(by unfold I64; omega),by simpa [dF.c] using this⟩
   have i3 : ¬ (j : Int) < d.people.length := by omega
   obtain rfl : j = d.people.length := by omega
   simp only [go_sem,gG,bG,aX,l4,i3]
   clear ih
   have hRG := hR0.sub sG
   refine dR (fun j => [(1,.ptr (.own h.length 0)),(3,.int .i64 (d.places.length : Int)),(13,.int .i64 j)]) (fun j => (fJ d j).length = aJ d ∧ ∀ t,t < (fJ d j).length → uI d.places.length ((fJ d j).getD t 0) = true) d.weathers.length rfl (fun j hj hall ih => ?_) (fun f5 => ?_)
   · refine aE aM aDT [1,3,13] L32_6.eq_1 ?_
     have i3 : (j : Int) < d.weathers.length := by omega
     obtain ⟨p,x,p1,p2,p3⟩ := hRG.weathers.at_ (j := j) hj
     rw [← jK hj] at p3
     obtain ⟨lx,q,qi,qr⟩ := SlI.use p3
     have p2' := p2 []
     rw [List.append_nil] at p2'
     obtain ⟨pz,xz,z1,z2,z3⟩ := hRG.weathers.at_ (j := 0) hw0
     have lz := (SlI.use z3).1
     rw [zO (x := []) hw0] at lz
     change _ = some (AV.int .i64 (aJ d : Nat)) at lz
     have z2' := z2 []
     rw [List.append_nil] at z2'
     simp only [go_sem,gG,bG,aX,l5,i3,p1,p2,p2',lx,z1,z2,z2',lz]
     refine ⟨fun e => ?_,fun e => ?_⟩
     · exact ⟨s0.trans sG,by rw [gR fun s => by have := (s.we j hj).1; omega]⟩
     have e' : (fJ d j).length = aJ d := by omega
     refine dR (fun t => [(1,.ptr (.own h.length 0)),(3,.int .i64 (d.places.length : Int)),(13,.int .i64 j),(14,.int .i64 t)]) (fun t => uI d.places.length ((fJ d j).getD t 0) = true) (fJ d j).length rfl (fun t ht _ ih2 => ?_) (fun f6 => ?_)
     · refine aE aM aDU [1,3,13,14] L32_5.eq_1 ?_
       have i4 : (t : Int) < (fJ d j).length := by omega
       have r1 := qi t ht
       have r2 := qr t ht
       have r2' := r2 []
       rw [List.append_nil] at r2'
       have hs := oF (n := d.places.length) (by omega)
       have hpw : (2 ^ d.places.length : Nat) ≤ 2 ^ 50 := Nat.pow_le_pow_right (by omega) n1
       have hp1 : 1 ≤ 2 ^ d.places.length := Nat.one_le_two_pow
       rw [aI ht] at ih2
       have hbit : inB ((fJ d j)[t]) 0 (((2 ^ d.places.length : Nat) : Int) - 1) = uI d.places.length ((fJ d j)[t]) := rfl
       simp only [go_sem,gG,bG,aX,p1,p2,p2',lx,i4,r1,r2,r2',hs]
       refine ⟨by unfold I64; omega,?_⟩
       refine aF (jP _ _ _).v ?_
       rw [hbit]
       cases e3 : uI d.places.length ((fJ d j)[t]) with
       | false =>
        simp only [go_sem]
        exact ⟨s0.trans sG,by rw [gR fun s => by have := (s.we j hj).2 t ht; rw [aI ht,e3] at this; cases this]⟩
       | true =>
        simp only [go_sem]
        exact ⟨(by unfold I64; omega),ih2 e3⟩
     · refine aE aM aDU [1,3,13,14] L32_5.eq_1 ?_
       have i4 : ¬ ((fJ d j).length : Int) < (fJ d j).length := by omega
       simp only [go_sem,gG,bG,aX,p1,p2,p2',lx,i4]
       exact ⟨(by unfold I64; omega),ih ⟨e',f6⟩⟩
   refine aE aM aDT [1,3,13] L32_6.eq_1 ?_
   have i3 : ¬ (d.weathers.length : Int) < d.weathers.length := by omega
   simp only [go_sem,gG,bG,aX,l5,i3]
   refine jT aM [0,1,2,3,4,5,6] [o_ 267 (.load (.t 1) (some 5)),o_ 268 (.load (.t 1) (some 5)),.call (some 269) none (f_ 40) [(.t 268)]] [([(0,o_ 267 (.load (.t 1) (some 5)))],[o_ 270 (.fld (.t 269) 0 none),.call (some 271) none (f_ 85) [(.t 267),(.t 270)],o_ 272 (.un .not (.t 271)),o_ 2 (m_ 272)])] rfl rfl (by kernel_rfl) ?_
   simp only [go_sem,gG,bG,aX,o1,o2,o3,o4,o5]
   refine aR (ACall.vc (first := []) (args := [.agg (aX v)]) (vL d v hRG)) ?_
   rintro y H ⟨sH,nv,rfl,hst⟩
   have gH := sH.2 _ _ gG
   have bH := xL gH
   simp only [go_sem,gH,bH,aX,o1,o2,o3,o4,o5,stC]
   refine aF (yK d v (bL d) nv.pl (hRG.sub sH).toDayS hst.planes.s n1 (by simp [bL]; omega)).v ?_
   have hlast : eE d = !(List.range d.places.length).any (eJ d (bL d)) := by
    cases e : (List.range d.places.length).any (eJ d (bL d)) with
    | true => exact gR fun s => by have := s.cr; rw [e] at this; cases this
    | false => exact lQ.2 ⟨by simp [inB]; omega,by omega,by omega,by omega,c5,c6,f1,f2,f3,f4,f5,e⟩
   rw [hlast]
   simp only [go_sem]
   exact (s0.trans sG).trans sH
theorem pX {d : aO} {w s : Nat} : aZ d w w s = true := by simp [aZ]
theorem aAM {d : aO} {a b c s : Nat} (h1 : aZ d a b s = true) : aZ d a c s = aZ d b c s := by
 simp only [aZ,decide_eq_true_eq] at h1 ⊢
 rw [h1]
end Go.Proofs.Ab
namespace Go.Proofs.Ab
open Go Go.Proofs
section
variable {a : Int} {pe : List Int}
theorem vX : ∀ {l : List Int} {g : List Bool},l.Pairwise (· < ·) → (∀ n ∈ l,0 ≤ n ∧ n < g.length) →
 (fQ a pe l g).1 = l.all (fun n => pe.getD n.toNat 0 == a && !g.getD n.toNat false) ∧ ((fQ a pe l g).1 = true → ∀ m,m < g.length → (fQ a pe l g).2.getD m false = (g.getD m false || l.any fun n => n == (m : Int)))
 | [],g,_,_ => ⟨rfl,fun _ m _ => by simp [fQ]⟩
 | n :: l,g,hp,hb => by
  obtain ⟨h1,h2⟩ := List.pairwise_cons.1 hp
  have hn := hb n (by simp)
  have hgl : (g.set n.toNat true).length = g.length := List.length_set
  obtain ⟨i1,i2⟩ := vX (l := l) (g := g.set n.toNat true) h2 fun m hm => by rw [hgl]; exact hb m (by simp [hm])
  have hne : ∀ m ∈ l,(g.set n.toNat true).getD m.toNat false = g.getD m.toNat false := fun m hm => by
   have := h1 m hm
   rw [List.getD_eq_getElem?_getD,List.getD_eq_getElem?_getD,qB (by omega)]
  rw [fQ]
  cases e : pe.getD n.toNat 0 == a && !g.getD n.toNat false with
  | false =>
   rw [if_neg (by simp)]
   refine ⟨by rw [List.all_cons,e]; rfl,fun h => by cases h⟩
  | true =>
   rw [if_pos rfl,List.all_cons,e,Bool.true_and]
   refine ⟨?_,fun h m hm => ?_⟩
   · rw [i1,Bool.eq_iff_iff,List.all_eq_true,List.all_eq_true]
     exact ⟨fun h x hx => by rw [← hne x hx]; exact h x hx,fun h x hx => by rw [hne x hx]; exact h x hx⟩
   · rw [i2 h m (by rw [hgl]; exact hm),List.any_cons]
     by_cases em : n = (m : Int)
     · subst em
       rw [Int.toNat_natCast,List.getD_eq_getElem?_getD,qF hm]
       simp
     · rw [List.getD_eq_getElem?_getD,qB (by omega),← List.getD_eq_getElem?_getD]
       have : (n == (m : Int)) = false := by simpa using em
       rw [this,Bool.false_or]
end
def nV (s : aD) (u : List aC) (i : Nat) (x : aC) : Bool := x.people.any fun n => !(s.people.getD n.toNat 0 == s.planes.getD i 0) || (u.take i).any fun y => y.people.any fun z => z == n
def mR (d : aO) (s : aD) (op : Int) (u : List aC) (i : Nat) : Int :=
 let x := u.getD i ⟨-1,[]⟩
 if x.to < 0 then 1 else if !cN d (s.planes.getD i 0) x.to then 2 else
 if !(aV op.toNat (s.planes.getD i 0).toNat && aV op.toNat x.to.toNat) then 3 else
 if !decide (s.legs.getD i 0 < (d.planes.getD i ⟨0,0,0,0,0⟩).duty) then 4 else
 if nV s u i x then 5 else if !decide (dI d x.people ≤ (d.planes.getD i ⟨0,0,0,0,0⟩).seats) then 6 else 1
def rL (d : aO) (s : aD) (op : Int) (u : List aC) : List aC → Nat → Option (Int × Int)
 | [],_ => none
 | _ :: r,i => if mR d s op u i ≠ 1 then some (mR d s op u i,i) else rL d s op u r (i + 1)
def mvL : List aC → Nat → aD → aD
 | [],_,n => n
 | x :: u,i,n => mvL u (i + 1) (if x.to < 0 then n else iT n i x)
def gN (d : aO) (s : aD) (op : Int) (u : List aC) : aD × Int × Int :=
 match rL d s op u u 0 with
 | some (r,i) => (s,r,i)
 | none => if (List.range d.places.length).any (eJ d (mvL u 0 s)) then (s,7,-1) else (mvL u 0 s,1,-1)
structure kI (d : aO) (u : List aC) : Prop where
 len : u.length = d.planes.length
 to : ∀ x ∈ u,-1 ≤ x.to ∧ x.to < d.places.length
 no : ∀ x ∈ u,x.to < 0 → x.people = []
 pp : ∀ x ∈ u,(∀ n ∈ x.people,0 ≤ n ∧ n < d.people.length) ∧ x.people.Pairwise (· < ·)
theorem zT {d : aO} {s : aD} {op : Int} {u : List aC} (hu : kI d u) (h4 : d.people.length ≤ 4) : ∀ (r p : List aC) (n : aD) (g : List Bool),u = p ++ r → g.length = 4 → (∀ m,m < 4 → g.getD m false = p.any fun y => y.people.any fun z => z == (m : Int)) →
 lY d s op r p.length n g = match rL d s op u r p.length with | some e => .error e | none => .ok (mvL r p.length n)
 | [],p,n,g,_,_,_ => rfl
 | x :: r,p,n,g,eu,gl,hg => by
  have hx : u.getD p.length ⟨-1,[]⟩ = x := by rw [eu,List.getD_eq_getElem?_getD,qI (Nat.le_refl _)]; simp
  have hxm : x ∈ u := by rw [eu]; simp
  have htk : u.take p.length = p := by rw [eu]; simp
  have hpp := hu.pp x hxm
  have eu2 : u = (p ++ [x]) ++ r := by rw [eu]; simp
  have hlen : (p ++ [x]).length = p.length + 1 := by simp
  rw [lY,rL]
  by_cases ht : x.to < 0
  · have hr : mR d s op u p.length = 1 := by rw [mR]; simp only [hx]; rw [if_pos ht]
    rw [if_pos ht,hr,if_neg (by simp),mvL,if_pos ht,← hlen]
    refine zT hu h4 r (p ++ [x]) n g eu2 gl fun m hm => ?_
    rw [hg m hm,List.any_append]
    simp [hu.no x hxm ht]
  rw [if_neg ht]
  obtain ⟨c1,c2⟩ := vX (a := s.planes.getD p.length 0) (pe := s.people) (l := x.people) (g := g) hpp.2 fun n hn => by have := hpp.1 n hn; rw [gl]; omega
  have hbad : nV s u p.length x = !(fQ (s.planes.getD p.length 0) s.people x.people g).1 := by
   rw [c1,nV,htk,List.not_all_eq_any_not,Bool.eq_iff_iff,List.any_eq_true,List.any_eq_true]
   have key : ∀ n ∈ x.people,(!(s.people.getD n.toNat 0 == s.planes.getD p.length 0) || p.any fun y => y.people.any fun z => z == n) = !(s.people.getD n.toNat 0 == s.planes.getD p.length 0 && !g.getD n.toNat false) := fun n hn => by
    have h1 := hpp.1 n hn
    rw [hg n.toNat (by omega),show ((n.toNat : Nat) : Int) = n by omega,Bool.not_and,Bool.not_not]
   exact ⟨fun ⟨n,hn,e⟩ => ⟨n,hn,by rw [← key n hn]; exact e⟩,fun ⟨n,hn,e⟩ => ⟨n,hn,by rw [key n hn]; exact e⟩⟩
  have hrb : mR d s op u p.length = if !cN d (s.planes.getD p.length 0) x.to then 2 else
   if !(aV op.toNat (s.planes.getD p.length 0).toNat && aV op.toNat x.to.toNat) then 3 else
   if !decide (s.legs.getD p.length 0 < (d.planes.getD p.length ⟨0,0,0,0,0⟩).duty) then 4 else
   if !(fQ (s.planes.getD p.length 0) s.people x.people g).1 then 5 else if !decide (dI d x.people ≤ (d.planes.getD p.length ⟨0,0,0,0,0⟩).seats) then 6 else 1 := by
   rw [mR]; simp only [hx]; rw [if_neg ht,hbad]
  have step : ∀ g',(fQ (s.planes.getD p.length 0) s.people x.people g).1 = true → g' = (fQ (s.planes.getD p.length 0) s.people x.people g).2 → lY d s op r (p.length + 1) (iT n p.length x) g' = match rL d s op u r (p.length + 1) with | some e => .error e | none => .ok (mvL (x :: r) p.length n) := fun g' hh hg' => by
   rw [mvL,if_neg ht,← hlen]
   subst hg'
   refine zT hu h4 r (p ++ [x]) _ _ eu2 (by rw [yD,gl]) fun m hm => ?_
   rw [c2 hh m (by omega),hg m hm,List.any_append]
   simp
  rw [lK,hrb]
  cases e1 : cN d (s.planes.getD p.length 0) x.to with
  | false => simp
  | true =>
  cases e2 : (aV op.toNat (s.planes.getD p.length 0).toNat && aV op.toNat x.to.toNat) with
  | false => simp
  | true =>
  cases e3 : decide (s.legs.getD p.length 0 < (d.planes.getD p.length ⟨0,0,0,0,0⟩).duty) with
  | false => simp
  | true =>
  cases e4 : (fQ (s.planes.getD p.length 0) s.people x.people g).1 with
  | false =>
   simp only [Bool.not_true,Bool.false_eq_true,if_false,e4,Bool.not_false,if_true]
   rfl
  | true =>
  cases e5 : decide (dI d x.people ≤ (d.planes.getD p.length ⟨0,0,0,0,0⟩).seats) with
  | false =>
   simp only [Bool.not_true,Bool.false_eq_true,if_false,e4,e5,Bool.not_false,if_true]
   rfl
  | true =>
   have := step _ e4 rfl
   simp only [Bool.not_true,Bool.false_eq_true,if_false,e4,e5]
   simpa using this
theorem uP {d : aO} {s : aD} {op : Int} {u : List aC} (hu : kI d u) (h4 : d.people.length ≤ 4) : gN d s op u = fC d s op u := by
 have := zT (s := s) (op := op) hu h4 u [] s [false,false,false,false] rfl rfl fun m hm => by
  rcases m with _ | _ | _ | _ | m
  · rfl
  · rfl
  · rfl
  · rfl
  · omega
 rw [List.length_nil] at this
 rw [gN,fC,this]
 cases e : rL d s op u u 0 with
 | none => rfl
 | some p => rfl
end Go.Proofs.Ab

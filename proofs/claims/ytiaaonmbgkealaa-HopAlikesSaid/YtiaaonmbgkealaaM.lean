/- The own layer under the proofs of this seat, part M: what calls of the program come to on an abstract heap. No condition. -/
import Derived.Test.YtiaaonmbgkealaaL
import Derived.Test.YtiaaonmbgkealaaG
set_option linter.unusedSimpArgs false
set_option linter.unusedVariables false
namespace Go.Proofs.Ab
open Go Go.Proofs
variable {w0 : World} {h : Heap}
attribute [local irreducible] ACall ACallV AYield DCall DCallV rvC rdC lp rg dr ex un rv rd'
theorem rin_c (x lo hi : Int) : DCall Try.prog w0 66 [.int .i64 x,.int .i64 lo,.int .i64 hi] h (.bool (inB x lo hi)) h := by
  refine DCall_quiet hmix mf66_ok mf66_b mf66_g (Nat.le_of_ble_eq_true rfl) (by simp [AV.bdd,AV.bdds]) fun hb ha => ex_in ?_
  simp only [go_sem,mf66]
  exact ⟨fun a => by simp [inB,a],fun a => by simp [inB,a]⟩
def nextD : List Span → Int → Int
  | [],_ => -1
  | s :: l,m => if m ≤ s.high then max m s.low else nextD l m
def briefB (c : ChainD) : Bool := c.stops.all (fun s => decide (s.windows.length ≤ 20)) && (decide (c.stops.length ≤ 20) && decide (c.legs.length ≤ 20))
theorem ChainS.R {c : ChainD} {v : ChainV} (s : ChainS w0 h c v) (hb : briefB c = true) : ChainR w0 h c v := by
  simp only [briefB,Bool.and_eq_true,decide_eq_true_eq,List.all_eq_true] at hb
  exact ⟨s,by omega,by omega,fun x hx => by have := hb.1 x hx; omega⟩
end Go.Proofs.Ab
namespace Go.Proofs.Ab
open Go Go.Proofs
variable {w0 : World} {h : Heap}
attribute [local irreducible] ACall ACallV AYield DCall DCallV rvC rdC lp rg dr ex un rv rd'
end Go.Proofs.Ab
namespace Go.Proofs.Ab
open Go Go.Proofs
variable {w0 : World} {h : Heap}
attribute [local irreducible] ACall ACallV AYield DCall DCallV rvC rdC lp rg dr ex un rv rd'
theorem Gro.base {g H : Heap} {es n : Nat} {ov : AV} {vs : List AV} (a : Gro g H es n ov vs) (s : HSub h g) : Gro h H es n ov vs := by
  refine ⟨s.trans a.sub,?_⟩
  rcases a.own with h1 | ⟨io,h1,h2⟩
  · exact .inl h1
  · exact .inr ⟨io,Nat.le_trans s.1 h1,h2⟩
end Go.Proofs.Ab
namespace Go.Proofs.Ab
open Go Go.Proofs
theorem nextD_snoc {l : List Span} {s : Span} {m : Int} (hl : ∀ x ∈ l,0 ≤ x.low) (hm : 0 ≤ m) : nextD (l ++ [s]) m = if nextD l m < 0 then (if m ≤ s.high then max m s.low else -1) else nextD l m := by
  induction l with
  | nil => simp [nextD]
  | cons a l ih =>
    have hi := ih fun x hx => hl x (List.mem_cons_of_mem _ hx)
    by_cases h : m ≤ a.high
    · have := hl a List.mem_cons_self
      have h5 : ¬ max m a.low < 0 := by omega
      simp only [List.cons_append,nextD,h,if_true,h5,if_false]
    · simp only [List.cons_append,nextD,h,if_false,hi]
theorem idxOf_snoc {p : Nat → Bool} {k : Nat} : idxOf p (List.range (k + 1)) = if idxOf p (List.range k) < 0 then (if p k then (k : Int) else -1) else idxOf p (List.range k) := by
  unfold idxOf
  rw [List.range_succ,List.findIdx?_append]
  cases e : (List.range k).findIdx? p with
  | none =>
    simp only [Option.none_or,List.findIdx?_cons,List.findIdx?_nil,List.length_range]
    cases hp : p k <;> simp
  | some i => simp; omega
structure SpI (r : Nat → Bool) (k : Nat) (out : List Span) : Prop where
  bd : ∀ s ∈ out,0 ≤ s.low ∧ s.low ≤ s.high ∧ s.high < k
  nx : ∀ m : Int,0 ≤ m → nextD out m = idxOf (fun (t : Nat) => decide (m ≤ (t : Int)) && r t) (List.range k)
  wi : ∀ m : Nat,within out m = (decide (m < k) && r m)
theorem SpI.nil {r : Nat → Bool} : SpI r 0 [] := ⟨by simp,fun m _ => rfl,fun m => by simp [within]⟩
theorem SpI.no {r : Nat → Bool} {k : Nat} {out : List Span} (a : SpI r k out) (h : r k = false) : SpI r (k + 1) out := by
  refine ⟨fun s hs => by have := a.bd s hs; omega,fun m hm => ?_,fun m => ?_⟩
  · rw [a.nx m hm,idxOf_snoc,h]
    simp only [Bool.and_false,Bool.false_eq_true,if_false]
    split
    · rename_i h1; unfold idxOf at h1 ⊢; split at h1
      · omega
      · rfl
    · rfl
  · rw [a.wi]
    by_cases hm : m = k
    · subst hm; simp [h]
    · have : decide (m < k) = decide (m < k + 1) := by rw [decide_eq_decide]; omega
      rw [this]
theorem within_snoc {l : List Span} {s : Span} {m : Int} : within (l ++ [s]) m = (within l m || inB m s.low s.high) := by simp [within]
theorem SpI.yes {r : Nat → Bool} {k : Nat} {out : List Span} (a : SpI r k out) (h : r k = true) : SpI r (k + 1) (addT out k) := by
  have hp : ∀ m : Int,(decide (m ≤ (k : Int)) && r k) = decide (m ≤ (k : Int)) := fun m => by rw [h,Bool.and_true]
  have hnew : (∀ init s,out = init ++ [s] → s.high ≠ (k : Int) - 1) → SpI r (k + 1) (out ++ [⟨k,k⟩]) := fun _ => by
    refine ⟨fun s hs => ?_,fun m hm => ?_,fun m => ?_⟩
    · rcases List.mem_append.1 hs with h1 | h1
      · have := a.bd s h1; omega
      · simp only [List.mem_singleton] at h1; subst h1; simp; omega
    · rw [nextD_snoc (fun x hx => (a.bd x hx).1) hm,a.nx m hm,idxOf_snoc,hp]
      simp only [decide_eq_true_eq]
      split
      · split
        · omega
        · rfl
      · rfl
    · rw [within_snoc,a.wi]
      simp only [inB]
      by_cases hm : m = k
      · subst hm; simp [h]
      · have e1 : decide (m < k) = decide (m < k + 1) := by rw [decide_eq_decide]; omega
        have e2 : (decide ((k : Int) ≤ (m : Int)) && decide ((m : Int) ≤ (k : Int))) = false := by
          rcases Nat.lt_or_ge m k with h1 | h1
          · rw [decide_eq_false (by omega)]; rfl
          · rw [decide_eq_false (show ¬ (m : Int) ≤ (k : Int) by omega),Bool.and_false]
        rw [e1,e2,Bool.or_false]
  rcases List.eq_nil_or_concat out with rfl | ⟨init,s,rfl⟩
  · exact hnew fun init s e => by simp at e
  · rw [List.concat_eq_append] at *
    by_cases hs : s.high = (k : Int) - 1
    · have e : addT (init ++ [s]) k = init ++ [⟨s.low,k⟩] := by simp [addT,hs]
      rw [e]
      have hb := a.bd s (by simp)
      have hi : ∀ x ∈ init,0 ≤ x.low := fun x hx => (a.bd x (by simp [hx])).1
      refine ⟨fun x hx => ?_,fun m hm => ?_,fun m => ?_⟩
      · rcases List.mem_append.1 hx with h1 | h1
        · have := a.bd x (by simp [h1]); omega
        · simp only [List.mem_singleton] at h1; subst h1; simp; omega
      · have o := a.nx m hm
        rw [nextD_snoc hi hm] at o ⊢
        rw [idxOf_snoc,hp,← o]
        simp only [decide_eq_true_eq]
        by_cases h1 : nextD init m < 0
        · by_cases h3 : m ≤ s.high
          · have h4 : m ≤ (k : Int) := by omega
            have h5 : ¬ max m s.low < 0 := by omega
            simp only [h1,h3,h4,h5,if_true,if_false]
          · have h5 : (-1 : Int) < 0 := by omega
            by_cases h4 : m ≤ (k : Int)
            · simp only [h1,h3,h4,h5,if_true,if_false]; omega
            · simp only [h1,h3,h4,h5,if_true,if_false]
        · simp only [h1,if_false]
      · have o := a.wi m
        rw [within_snoc] at o ⊢
        simp only [inB] at o ⊢
        by_cases hm : m = k
        · subst hm
          rw [decide_eq_true (show s.low ≤ (m : Int) by omega),decide_eq_true (Int.le_refl _),decide_eq_true (by omega),h]; simp
        · have e1 : decide (m < k + 1) = decide (m < k) := by rw [decide_eq_decide]; omega
          have e2 : decide ((m : Int) ≤ (k : Int)) = decide ((m : Int) ≤ s.high) := by rw [decide_eq_decide]; omega
          rw [e1,e2]; exact o
    · have e : addT (init ++ [s]) k = init ++ [s] ++ [⟨k,k⟩] := by simp [addT,hs]
      rw [e]
      exact hnew fun init' s' e' => by
        have := List.append_inj_right' e' rfl
        simp only [List.cons.injEq,and_true] at this
        subst this; exact hs
theorem SpI.all {r : Nat → Bool} : ∀ k,k ≤ 1441 → SpI r k (spL 0 [] ((rowB r).take k)) := by
  intro k hk
  induction k with
  | zero => exact SpI.nil
  | succ k ih =>
    have i := ih (by omega)
    have hl : (rowB r)[k]? = some (r k) := by rw [rowB,List.getElem?_map,List.getElem?_range (by omega)]; rfl
    rw [List.take_add_one,hl,Option.toList,spL_snoc,List.length_take,Nat.zero_add,Nat.min_eq_left (by simp [rowB]; omega)]
    cases e : r k with
    | true => rw [if_pos rfl]; exact i.yes e
    | false => exact i.no e
end Go.Proofs.Ab
namespace Go.Proofs.Ab
open Go Go.Proofs
variable {w0 : World} {h : Heap}
attribute [local irreducible] ACall ACallV AYield DCall DCallV rvC rdC lp rg dr ex un rv rd'
def OwnSp (io : Nat) (G : Heap) (y : AV) (l : List Span) : Prop := (y = .nilS ∧ l = []) ∨ ∃ k,k ≠ io ∧ y = .sl (.own k 0) l.length 2 false ∧ G[k]? = some (some (.row (flatS l)))
theorem OwnSp.sl {io : Nat} {G : Heap} {y : AV} {l : List Span} (a : OwnSp io G y l) : Sl w0 G 2 y (l.map Span.c) := by
  rcases a with ⟨rfl,rfl⟩ | ⟨k,_,rfl,h2⟩
  · exact .inl ⟨rfl,rfl⟩
  · have := Sl_own (w0 := w0) (H := G) (full := false) (io := k) (rows := l.map Span.c) (es := 2) h2 (sp_len _)
    rwa [List.length_map] at this
theorem OwnSp.sub {io : Nat} {G H : Heap} {y : AV} {l : List Span} (a : OwnSp io G y l) (s : HSub G H) : OwnSp io H y l := by
  rcases a with h1 | ⟨k,h0,h1,h2⟩
  · exact .inl h1
  · exact .inr ⟨k,h0,h1,s.2 _ _ h2⟩
theorem OwnSp.set {io : Nat} {G : Heap} {y : AV} {l : List Span} {x : Option Blk} (a : OwnSp io G y l) : OwnSp io (G.set io x) y l := by
  rcases a with h1 | ⟨k,h0,h1,h2⟩
  · exact .inl h1
  · exact .inr ⟨k,h0,h1,by rw [List.getElem?_set_ne (Ne.symm h0)]; exact h2⟩
end Go.Proofs.Ab
namespace Go.Proofs.Ab
open Go Go.Proofs
variable {w : World} {h : Heap} {cs : List Value}
theorem int_of {v : Value} (g : Gd w (.int .nil) [v]) : ∃ n : Int,inj v = .int .i64 n ∧ I64 n := by
  obtain ⟨n,_,e,h,rfl⟩ := g
  cases e; exact ⟨n,rfl,h⟩
end Go.Proofs.Ab
namespace Go.Proofs.Ab
open Go Go.Proofs
variable {w0 : World} {h : Heap}
attribute [local irreducible] ACall ACallV AYield DCall DCallV rvC rdC lp rg dr ex un rv rd'
section
variable {d : DayD} {v : DayV}
theorem DayS.lens (s : DayS w0 h d v) : lenV v.pl = some (.int .i64 d.places.length) ∧ lenV v.ln = some (.int .i64 d.links.length) ∧ lenV v.pn = some (.int .i64 d.planes.length) ∧ lenV v.pe = some (.int .i64 d.people.length) ∧ lenV v.we = some (.int .i64 d.weathers.length) :=
  ⟨by simpa using s.places.use.1,by simpa using s.links.use.1,by simpa using s.planes.use.1,by simpa using s.people.use.1,NS.len s.weathers⟩
theorem DayS.ones (s : DayS w0 h d v) : one v.pl = true ∧ one v.ln = true ∧ one v.pn = true ∧ one v.pe = true ∧ one v.we = true :=
  ⟨s.places.one.1,s.links.one.1,s.planes.one.1,s.people.one.1,(NS.one s.weathers).1⟩
theorem DayS.bdd (s : DayS w0 h d v) {N : Nat} (hN : h.length ≤ N) : AV.bdds N (dayC v) := by
  simp only [dayC,AV.bdds]
  exact ⟨s.places.bdd hN,s.links.bdd hN,s.planes.bdd hN,s.people.bdd hN,NS.bdd s.weathers hN,trivial⟩
theorem DayS.place (s : DayS w0 h d v) {j : Nat} (hj : j < d.places.length) : ∃ p : Pl,idxsV 2 v.pl (some j) = some (.ptr p) ∧ ∀ L,rdn w0 (h ++ L) p 2 = some d.places[j].c := by
  obtain ⟨p,p1,p2⟩ := s.places.lt (j := j) (by simpa using hj)
  exact ⟨p,p1,fun L => p2 L _ (by simp [hj])⟩
theorem DayS.link (s : DayS w0 h d v) {j : Nat} (hj : j < d.links.length) : ∃ p : Pl,idxsV 2 v.ln (some j) = some (.ptr p) ∧ ∀ L,rdn w0 (h ++ L) p 2 = some d.links[j].c := by
  obtain ⟨p,p1,p2⟩ := s.links.lt (j := j) (by simpa using hj)
  exact ⟨p,p1,fun L => p2 L _ (by simp [hj])⟩
theorem DayS.plane (s : DayS w0 h d v) {j : Nat} (hj : j < d.planes.length) : ∃ p : Pl,idxsV 5 v.pn (some j) = some (.ptr p) ∧ ∀ L,rdn w0 (h ++ L) p 5 = some d.planes[j].c := by
  obtain ⟨p,p1,p2⟩ := s.planes.lt (j := j) (by simpa using hj)
  exact ⟨p,p1,fun L => p2 L _ (by simp [hj])⟩
theorem DayS.person (s : DayS w0 h d v) {j : Nat} (hj : j < d.people.length) : ∃ p : Pl,idxsV 5 v.pe (some j) = some (.ptr p) ∧ ∀ L,rdn w0 (h ++ L) p 5 = some d.people[j].c := by
  obtain ⟨p,p1,p2⟩ := s.people.lt (j := j) (by simpa using hj)
  exact ⟨p,p1,fun L => p2 L _ (by simp [hj])⟩
end
theorem head_at {α : Type} {l : List α} {x : α} (h : 0 < l.length) : l[0] = l.headD x := by
  cases l with
  | nil => simp at h
  | cons a b => rfl
def shortB (d : DayD) : Bool := d.weathers.all (fun w => decide (w.length ≤ 12)) && (decide (d.places.length ≤ 12) && (decide (d.links.length ≤ 40) && (decide (d.planes.length ≤ 12) && (decide (d.people.length ≤ 12) && decide (d.weathers.length ≤ 12)))))
theorem short_c (d : DayD) (v : DayV) (hS : DayS w0 h d v) (hl : d.weathers.length ≤ 9223372036854775807) : DCall Try.prog w0 31 [.agg (dayC v)] h (.bool (shortB d)) h := by
  refine DCall_quiet hmix mf31_ok mf31_b mf31_g (Nat.le_of_ble_eq_true rfl) (by simp [AV.bdd,AV.bdds]) fun hb ha => ex_in ?_
  obtain ⟨l1,l2,l3,l4,l5⟩ := hS.lens
  obtain ⟨o1,o2,o3,o4,o5⟩ := hS.ones
  simp only [go_sem,mf31,o1,o2,o3,o4,o5]
  refine lp_all (fun j => [(1,.ptr (.own h.length 0)),(3,.int .i64 j)]) (fun j => (d.weathers.getD j []).length ≤ 12) d.weathers.length rfl (fun j hj hi ih => ?_) (fun es => ?_)
  · refine lp_step hmix L31_0_g [1,3] L31_0.eq_1 ?_
    obtain ⟨p,x,p1,p2,p3⟩ := hS.weathers.at_ (j := j) hj
    have i3 : (j : Int) < d.weathers.length := by omega
    have l6 := (SlI.use p3).1
    simp only [go_sem,l5,i3,p1,p2,l6]
    rw [getD_at hj] at ih
    refine ⟨fun e => ?_,fun e => ⟨(by unfold I64; omega),ih (by omega)⟩⟩
    have : d.weathers.all (fun w => decide (w.length ≤ 12)) = false := List.all_eq_false.2 ⟨_,List.getElem_mem hj,by simp; omega⟩
    simp [shortB,this]
  refine lp_step hmix L31_0_g [1,3] L31_0.eq_1 ?_
  have x1 : ¬ (d.weathers.length : Int) < d.weathers.length := by omega
  simp only [go_sem,l1,l2,l3,l4,l5,x1]
  have es : d.weathers.all (fun w => decide (w.length ≤ 12)) = true := by
    rw [← all_range (x := [])]; exact all_range_iff.2 fun i hi => decide_eq_true (es i hi)
  have h0 : ∀ a b : Nat,((a : Int) ≤ b) = (a ≤ b) := fun a b => by simp only [eq_iff_iff]; omega
  have h5 : ∀ a : Nat,((a : Int) ≤ 12) = (a ≤ 12) := fun a => h0 a 12
  have h6 : ∀ a : Nat,((a : Int) ≤ 40) = (a ≤ 40) := fun a => h0 a 40
  simp only [h5,h6]
  refine ⟨fun e1 => ⟨fun e2 => ⟨fun e3 => ⟨fun e4 => ?_,fun e4 => ?_⟩,fun e3 => ?_⟩,fun e2 => ?_⟩,fun e1 => ?_⟩
  · simp [shortB,es,e1,e2,e3,e4]
  · simp only [shortB,decide_eq_false e4,Bool.false_and,Bool.and_false]
  · simp only [shortB,decide_eq_false e3,Bool.false_and,Bool.and_false]
  · simp only [shortB,decide_eq_false e2,Bool.false_and,Bool.and_false]
  · simp only [shortB,decide_eq_false e1,Bool.false_and,Bool.and_false]
theorem DayS.R {d : DayD} {v : DayV} (s : DayS w0 h d v) (hb : shortB d = true) : DayR w0 h d v := by
  simp only [shortB,Bool.and_eq_true,decide_eq_true_eq,List.all_eq_true] at hb
  exact ⟨s,by omega,by omega,by omega,by omega,by omega,fun w hw => by have := hb.1 w hw; omega⟩
theorem rslots_c (d : DayD) (v : DayV) (hS : DayS w0 h d v) (hw : d.weathers ≠ []) : DCall Try.prog w0 42 [.agg (dayC v)] h (.int .i64 (slotsD d)) h := by
  refine DCall_quiet hmix mf42_ok mf42_b mf42_g (Nat.le_of_ble_eq_true rfl) (by simp [AV.bdd,AV.bdds]) fun hb ha => ex_in ?_
  obtain ⟨o1,o2,o3,o4,o5⟩ := hS.ones
  obtain ⟨p,x,p1,p2,p3⟩ := hS.weathers.at_ (j := 0) (List.length_pos_iff.2 hw)
  have l6 := (SlI.use p3).1
  have e : d.weathers[0]'(List.length_pos_iff.2 hw) = d.weathers.headD [] := head_at _
  rw [e] at l6
  simp only [go_sem,mf42,o1,o2,o3,o4,o5,p1,p2,l6]
  rfl
theorem rhas_c (l : List Int) (lv : AV) (n : Int) (hl : SlI w0 h lv l) (hn : l.length < 1000000) : DCall Try.prog w0 44 [lv,.int .i64 n] h (.bool (l.any fun x => decide (x = n))) h := by
  refine DCall_quiet hmix mf44_ok mf44_b mf44_g (Nat.le_of_ble_eq_true rfl) (by simp [AV.bdd,AV.bdds]) fun hb ha => ex_in ?_
  obtain ⟨l1,q,ix,rr⟩ := SlI.use hl
  simp only [go_sem,mf44]
  refine lp_all (fun j => [(0,lv),(1,.int .i64 n),(5,.int .i64 j)]) (fun j => l.getD j 0 ≠ n) l.length rfl (fun j hj hi ih => ?_) (fun es => ?_)
  · refine lp_step hmix L44_0_g [0,1,5] L44_0.eq_1 ?_
    have i3 : (j : Int) < l.length := by omega
    have p1 := ix j hj
    have p2 := rr j hj
    have p2' := p2 []
    rw [List.append_nil] at p2'
    rw [getD_at hj] at ih
    simp only [go_sem,l1,i3,p1,p2,p2']
    refine ⟨fun e => ?_,fun e => ⟨(by unfold I64; omega),ih e⟩⟩
    have : (l.any fun x => decide (x = n)) = true := List.any_eq_true.2 ⟨_,List.getElem_mem hj,by simp [e]⟩
    rw [this]
  refine lp_step hmix L44_0_g [0,1,5] L44_0.eq_1 ?_
  have x1 : ¬ (l.length : Int) < l.length := by omega
  simp only [go_sem,l1,x1]
  have : (l.any fun x => decide (x = n)) = false := List.any_eq_false.2 fun x hx => by
    obtain ⟨i,hi,rfl⟩ := List.getElem_of_mem hx
    have := es i hi
    rw [getD_at hi] at this
    simpa using this
  rw [this]
theorem equal_c (a b : List Int) (va vb : AV) (hva : SlI w0 h va a) (hvb : SlI w0 h vb b) (hn : a.length < 1000000) : DCall Try.prog w0 132 [va,vb] h (.bool (decide (a = b))) h := by
  refine DCall_quiet hmix mf132_ok mf132_b mf132_g (Nat.le_of_ble_eq_true rfl) (by simp [AV.bdd,AV.bdds]) fun hb ha => ex_in ?_
  obtain ⟨l1,q,ix,rr⟩ := SlI.use hva
  obtain ⟨l2,q2,ix2,rr2⟩ := SlI.use hvb
  simp only [go_sem,mf132,l1,l2]
  refine ⟨fun e => ?_,fun e => ?_⟩
  · have : ¬ a = b := fun e2 => e (by rw [e2])
    rw [decide_eq_false this]
  have el : a.length = b.length := by omega
  refine lp_all (fun j => [(0,va),(1,vb),(12,.int .i64 a.length),(13,.int .i64 j)]) (fun j => a.getD j 0 = b.getD j 0) a.length rfl (fun j hj hi ih => ?_) (fun es => ?_)
  · refine lp_step hmix L132_0_g [0,1,12,13] L132_0.eq_1 ?_
    have i3 : (j : Int) < a.length := by omega
    have hj2 : j < b.length := by omega
    have p1 := ix j hj
    have p2 := rr j hj
    have p2' := p2 []
    have p3 := ix2 j hj2
    have p4 := rr2 j hj2
    have p4' := p4 []
    rw [List.append_nil] at p2' p4'
    rw [getD_at hj,getD_at hj2] at ih
    simp only [go_sem,i3,p1,p2,p2',p3,p4,p4']
    refine ⟨fun e => ?_,fun e => ⟨(by unfold I64; omega),ih e⟩⟩
    have : ¬ a = b := fun e2 => e (by subst e2; rfl)
    rw [decide_eq_false this]
  refine lp_step hmix L132_0_g [0,1,12,13] L132_0.eq_1 ?_
  have x1 : ¬ (a.length : Int) < a.length := by omega
  simp only [go_sem,x1]
  have : a = b := List.ext_getElem el fun i h1 h2 => by
    have := es i h1
    rwa [getD_at h1,getD_at h2] at this
  rw [decide_eq_true this]
end Go.Proofs.Ab
namespace Go.Proofs.Ab
open Go Go.Proofs
variable {w : World} {h : Heap} {cs : List Value}
def placeRw : Rw := .int (.bool .nil)
def linkRw : Rw := .int (.int .nil)
def personRw : Rw := .int (.int (.int (.int (.int .nil))))
def listRw : Rw := .sl (.int .nil) .nil
def dayRw : Rw := .sl placeRw (.sl linkRw (.sl personRw (.sl personRw (.sl listRw .nil))))
theorem lists_of {v : Value} (g : SliceIn w listRw v) : ∃ l : List (List Int),LI w h (inj v) l ∧ l.length ≤ 9223372036854775807 := by
  obtain ⟨rows,h1,h2,h3⟩ := rows_of (h := h) g
  obtain ⟨l,rfl,hl⟩ := rows_map (f := fun x : AV × List Int => [x.1]) (p := fun x => SlI w h x.1 x.2) (rows := rows) fun c hc => by
    obtain ⟨cs,rfl,u,_,rfl,g2,rfl⟩ := h3 c hc
    obtain ⟨q,hq,_⟩ := ints_of (h := h) g2
    exact ⟨(inj u,q),rfl,hq⟩
  refine ⟨l.map Prod.snd,⟨_,by simp,h1,fun j x c hx hc => ?_⟩,by simpa using h2⟩
  simp only [List.getElem?_map,Option.map_eq_some_iff] at hx hc
  obtain ⟨a,a1,rfl⟩ := hx
  obtain ⟨b,b1,rfl⟩ := hc
  rw [a1] at b1; cases b1
  exact ⟨a.1,rfl,hl _ (List.mem_of_getElem? a1)⟩
theorem day_of (g : Gd w dayRw cs) : ∃ (d : DayD) (v : DayV),cs.map inj = dayC v ∧ DayS w h d v ∧ d.weathers.length ≤ 9223372036854775807 := by
  obtain ⟨v0,_,rfl,g0,v1,_,rfl,g1,v2,_,rfl,g2,v3,_,rfl,g3,v4,_,rfl,g4,rfl⟩ := g
  obtain ⟨l0,s0,_⟩ := slice_of (h := h) PlaceD.c rfl g0 fun _ g => by
    obtain ⟨a,_,rfl,_,b,_,rfl,rfl⟩ := g
    exact ⟨⟨a,b⟩,rfl⟩
  obtain ⟨l1,s1,_⟩ := slice_of (h := h) LinkD.c rfl g1 fun _ g => by
    obtain ⟨a,_,rfl,_,b,_,rfl,_,rfl⟩ := g
    exact ⟨⟨a,b⟩,rfl⟩
  obtain ⟨l2,s2,_⟩ := slice_of (h := h) PlaneD.c rfl g2 fun _ g => by
    obtain ⟨a,_,rfl,_,b,_,rfl,_,c,_,rfl,_,d,_,rfl,_,e,_,rfl,_,rfl⟩ := g
    exact ⟨⟨a,b,c,d,e⟩,rfl⟩
  obtain ⟨l3,s3,_⟩ := slice_of (h := h) PersonD.c rfl g3 fun _ g => by
    obtain ⟨a,_,rfl,_,b,_,rfl,_,c,_,rfl,_,d,_,rfl,_,e,_,rfl,_,rfl⟩ := g
    exact ⟨⟨a,b,c,d,e⟩,rfl⟩
  obtain ⟨l4,s4,hl⟩ := lists_of (h := h) g4
  exact ⟨⟨l0,l1,l2,l3,l4⟩,⟨inj v0,inj v1,inj v2,inj v3,inj v4⟩,rfl,⟨s0,s1,s2,s3,s4⟩,hl⟩
end Go.Proofs.Ab
namespace Go.Proofs.Ab
open Go Go.Proofs
variable {w0 : World} {h : Heap}
attribute [local irreducible] ACall ACallV AYield DCall DCallV rvC rdC lp rg dr ex un rv rd'
def weaD (d : DayD) (w : Nat) : List Int := d.weathers.getD w []
def looksB (d : DayD) (a b s : Nat) : Bool := decide ((weaD d a).take (s + 1) = (weaD d b).take (s + 1))
def alikeD (d : DayD) (w s : Nat) : List Int := ((List.range d.weathers.length).filter fun i => looksB d i w s).map fun (i : Nat) => (i : Int)
theorem looks_comm {d : DayD} {a b s : Nat} : looksB d a b s = looksB d b a s := by
  unfold looksB
  exact decide_eq_decide.2 ⟨Eq.symm,Eq.symm⟩
theorem weaD_at {d : DayD} {a : Nat} (qa : a < d.weathers.length) : weaD d a = d.weathers[a] := getD_at qa
theorem looks_iff {d : DayD} {a b s : Nat} (ha : s < (weaD d a).length) (hb : s < (weaD d b).length) : looksB d a b s = true ↔ ∀ t,t < s + 1 → (weaD d a).getD t 0 = (weaD d b).getD t 0 := by
  rw [looksB,decide_eq_true_iff]
  constructor
  · intro e t ht
    have e1 : ((weaD d a).take (s + 1))[t]? = ((weaD d b).take (s + 1))[t]? := by rw [e]
    rw [List.getElem?_take_of_lt ht,List.getElem?_take_of_lt ht] at e1
    rw [List.getD_eq_getElem?_getD,List.getD_eq_getElem?_getD,e1]
  · intro e
    refine List.ext_getElem (by simp; omega) fun t h1 h2 => ?_
    rw [List.length_take] at h1 h2
    have := e t (by omega)
    rw [getD_at (by omega),getD_at (by omega)] at this
    simpa using this
theorem looks_c (d : DayD) (v : DayV) (a b s : Nat) (hS : DayS w0 h d v) (qa : a < d.weathers.length) (qb : b < d.weathers.length) (sa : s < (weaD d a).length) (sb : s < (weaD d b).length) (hs : s < 1000000) :
    DCall Try.prog w0 46 [.agg (dayC v),.int .i64 (a : Int),.int .i64 (b : Int),.int .i64 (s : Int)] h (.bool (looksB d a b s)) h := by
  refine DCall_quiet hmix mf46_ok mf46_b mf46_g (Nat.le_of_ble_eq_true rfl) (by simp [AV.bdd,AV.bdds]) fun hb ha => ex_in ?_
  obtain ⟨o1,o2,o3,o4,o5⟩ := hS.ones
  simp only [go_sem,mf46,o1,o2,o3,o4,o5]
  refine lp_all (fun j => [(1,.int .i64 (a : Int)),(2,.int .i64 (b : Int)),(3,.int .i64 (s : Int)),(4,.ptr (.own h.length 0)),(9,.int .i64 j)]) (fun t => (weaD d a).getD t 0 = (weaD d b).getD t 0) (s + 1) rfl (fun j hj hi ih => ?_) (fun es => ?_)
  · refine lp_step hmix L46_0_g [1,2,3,4,9] L46_0.eq_1 ?_
    have i3 : (j : Int) ≤ s := by omega
    obtain ⟨p,x,p1,p2,p3⟩ := hS.weathers.at_ (j := a) qa
    obtain ⟨q,y,q1,q2,q3⟩ := hS.weathers.at_ (j := b) qb
    rw [← weaD_at qa] at p3
    rw [← weaD_at qb] at q3
    obtain ⟨_,u,ux,ur⟩ := SlI.use p3
    obtain ⟨_,z,zx,zr⟩ := SlI.use q3
    have ux := ux j (by omega)
    have ur := ur j (by omega)
    have zx := zx j (by omega)
    have zr := zr j (by omega)
    have p2' := p2 []
    have q2' := q2 []
    have ur' := ur []
    have zr' := zr []
    rw [List.append_nil] at p2' q2' ur' zr'
    rw [getD_at (by omega),getD_at (by omega)] at ih
    simp only [go_sem,i3,p1,p2,p2',q1,q2,q2',ux,ur,ur',zx,zr,zr']
    refine ⟨fun e => ?_,fun e => ⟨(by unfold I64; omega),ih e⟩⟩
    have : looksB d a b s = false := by
      rw [Bool.eq_false_iff]
      intro h1
      have := (looks_iff sa sb).1 h1 j hj
      rw [getD_at (by omega),getD_at (by omega)] at this
      exact e this
    rw [this]
  refine lp_step hmix L46_0_g [1,2,3,4,9] L46_0.eq_1 ?_
  have x1 : ¬ ((s + 1 : Nat) : Int) ≤ s := by omega
  simp only [go_sem,x1]
  rw [(looks_iff sa sb).2 es]
theorem alike_c (d : DayD) (v : DayV) (mv : AV) (i a b s : Nat) (hS : DayS w0 h d v) (hi : h[i]? = some (some (.row (dayC v ++ [mv])))) (qa : a < d.weathers.length) (qb : b < d.weathers.length) (sa : s < (weaD d a).length) (sb : s < (weaD d b).length) (la : (weaD d a).length < 1000000) :
    DCall Try.prog w0 92 [.ptr (.own i 0),.int .i64 (a : Int),.int .i64 (b : Int),.int .i64 (s : Int)] h (.bool (looksB d a b s)) h := by
  refine DCall_quiet hmix mf92_ok mf92_b mf92_g (Nat.le_of_ble_eq_true rfl) (by simp [AV.bdd,AV.bdds]) fun hb ha => ex_in ?_
  have b1 : ∀ L,(h ++ L)[i]? = some (some (.row (dayC v ++ [mv]))) := fun L => getElem?_app_left hi
  obtain ⟨p,x,p1,p2,p3⟩ := hS.weathers.at_ (j := a) qa
  obtain ⟨q,y,q1,q2,q3⟩ := hS.weathers.at_ (j := b) qb
  rw [← weaD_at qa] at p3
  rw [← weaD_at qb] at q3
  have p2' := p2 []
  have q2' := q2 []
  have b1' := b1 []
  rw [List.append_nil] at p2' q2' b1'
  obtain ⟨u,hu,eu⟩ := Sl_take p3 (k := s + 1) (by simp; omega)
  obtain ⟨z,hz,ez⟩ := Sl_take q3 (k := s + 1) (by simp; omega)
  rw [← List.map_take] at hu hz
  have as1 : asNat (.int .i64 ((s : Int) + 1)) = some (s + 1) := by rw [show (s : Int) + 1 = ((s + 1 : Nat) : Int) by omega]; exact asNat_n
  have i1 : I64 ((s : Int) + 1) := (by unfold I64; omega)
  simp only [go_sem,mf92,b1,b1',p1,p2,p2',q1,q2,q2',i1,eu,ez,as1]
  refine rdC_q (equal_c ((weaD d a).take (s + 1)) ((weaD d b).take (s + 1)) u z hu.app hz.app (by simp; omega)).v ?_
  simp only [go_sem]
  rfl
def filtN (p : Nat → Bool) (n : Nat) : List Int := ((List.range n).filter p).map fun (i : Nat) => (i : Int)
theorem filtN_succ {p : Nat → Bool} {n : Nat} : filtN p (n + 1) = if p n = true then filtN p n ++ [(n : Int)] else filtN p n := by
  unfold filtN
  rw [List.range_succ,List.filter_append]
  cases e : p n <;> simp [e]
theorem filtN_len {p : Nat → Bool} {n : Nat} : (filtN p n).length ≤ n := by
  unfold filtN
  rw [List.length_map]
  exact Nat.le_trans (List.length_filter_le _ _) (by simp)
theorem ralike_c (d : DayD) (v : DayV) (w s : Nat) (hR : DayR w0 h d v) (hw : w < d.weathers.length) (hs : ∀ i,i < d.weathers.length → s < (weaD d i).length) (hs1 : s < 1000000) :
    ACall Try.prog w0 43 [.agg (dayC v),.int .i64 (w : Int),.int .i64 (s : Int)] h fun y H => HSub h H ∧ SlI w0 H y (alikeD d w s) := by
  refine ACall_sx hmix mf43_ok mf43_b mf43_g (Nat.le_of_ble_eq_true rfl) fun hb ha => ex_in ?_
  obtain ⟨o1,o2,o3,o4,o5⟩ := hR.ones
  obtain ⟨l1,l2,l3,l4,l5⟩ := hR.lens
  have hn := hR.l5
  obtain ⟨K0,eK0⟩ : ∃ K0 : Heap,K0 = h ++ [some (.row (dayC v))] := ⟨_,rfl⟩
  have s0 : HSub h K0 := eK0 ▸ HSub.refl.app
  have g0 : K0[h.length]? = some (some (.row (dayC v))) := by rw [eK0]; simp
  simp only [go_sem,mf43,o1,o2,o3,o4,o5]
  change lp _ _ _ _ _ _ _ _ _ (h ++ [some (.row (dayC v))])
  rw [← eK0]
  refine lp_ind (S := Nat × Heap × AV × List Int) (F := fun x => [(1,.int .i64 (w : Int)),(2,.int .i64 (s : Int)),(3,.ptr (.own h.length 0)),(7,x.2.2.1),(8,.int .i64 x.1)]) (H := fun x => x.2.1) (meas := fun x => d.weathers.length - x.1)
    (Inv := fun x => x.1 ≤ d.weathers.length ∧ x.2.2.2 = filtN (fun i => looksB d i w s) x.1 ∧ Gro K0 x.2.1 1 x.2.2.2.length x.2.2.1 (ints x.2.2.2)) (0,K0,.nilS,[]) ⟨Nat.zero_le _,rfl,Gro.nil HSub.refl⟩ rfl rfl ?_
  rintro ⟨j,H,ov,out⟩ ⟨hj,ho,g⟩ ih
  simp only at hj ho g ih
  refine lp_step hmix L43_0_g [1,2,3,7,8] L43_0.eq_1 ?_
  have gH := g.sub.2 _ _ g0
  have bH : ∀ L,(H ++ L)[h.length]? = some (some (.row (dayC v))) := fun L => getElem?_app_left gH
  have sH := s0.trans g.sub
  have hol : out.length ≤ j := ho ▸ filtN_len
  rcases Nat.lt_or_ge j d.weathers.length with hjl | hjl
  · have f0 : (j : Int) < d.weathers.length := by omega
    simp only [go_sem,gH,bH,dayC,l5,f0,o1,o2,o3,o4,o5]
    refine rvC_use (looks_c d v w j s (hR.toDayS.sub sH) hw hjl (hs w hw) (hs j hjl) hs1).v ?_
    rw [looks_comm]
    have hnext := filtN_succ (p := fun i => looksB d i w s) (n := j)
    cases e : looksB d j w s with
    | true =>
      rw [if_pos e,← ho] at hnext
      obtain ⟨G,eG,gG⟩ := (g.app (L := [some (.row [.int .i64 (j : Int)])])).more (w0 := w0) (b := 8) (k := H.length) (x := [.int .i64 (j : Int)]) (f := true) (by simp) rfl rfl (by omega) (by omega)
      simp only [go_sem,eG]
      have := ih (j + 1,G,_,out ++ [(j : Int)]) ⟨by simp only; omega,hnext.symm,by simpa [ints] using gG⟩ (by simp only; omega)
      exact ⟨(by unfold I64; omega),by simpa using this⟩
    | false =>
      rw [if_neg (by rw [e]; simp),← ho] at hnext
      simp only [go_sem]
      have := ih (j + 1,H,ov,out) ⟨by simp only; omega,hnext.symm,g⟩ (by simp only; omega)
      exact ⟨(by unfold I64; omega),by simpa using this⟩
  · have f0 : ¬ (j : Int) < d.weathers.length := by omega
    obtain rfl : j = d.weathers.length := by omega
    simp only [go_sem,gH,bH,dayC,l5,f0]
    exact ⟨sH,by rw [← show out = alikeD d w s from ho]; exact g.sli rfl⟩
def AlikeK (w0 : World) (d : DayD) (w s : Int) (y : AV) (H : Heap) : Prop :=
  if (dayB d && (inB w 0 ((d.weathers.length : Int) - 1) && inB s 0 ((slotsD d : Int) - 1))) = true then ∃ x,y = .tup [x,.int .i64 0] ∧ SlI w0 H x (alikeD d w.toNat s.toNat) else y = .tup [.nilS,.int .i64 2]
theorem Alike_c (d : DayD) (v : DayV) (w s : Int) (hR : DayR w0 h d v) : ACall Try.prog w0 41 [.agg (dayC v),.int .i64 w,.int .i64 s] h fun y H => HSub h H ∧ AlikeK w0 d w s y H := by
  refine ACall_sx hmix mf41_ok mf41_b mf41_g (Nat.le_of_ble_eq_true rfl) fun hb ha => ex_in ?_
  obtain ⟨o1,o2,o3,o4,o5⟩ := hR.ones
  obtain ⟨l1,l2,l3,l4,l5⟩ := hR.lens
  have hn := hR.l5
  obtain ⟨K0,eK0⟩ : ∃ K0 : Heap,K0 = h ++ [some (.row (dayC v))] := ⟨_,rfl⟩
  have s0 : HSub h K0 := eK0 ▸ HSub.refl.app
  have g0 : K0[h.length]? = some (some (.row (dayC v))) := by rw [eK0]; simp
  have b0 : ∀ L,(K0 ++ L)[h.length]? = some (some (.row (dayC v))) := fun L => getElem?_app_left g0
  simp only [go_sem,mf41,o1,o2,o3,o4,o5]
  refine rvC_use (checked_c (h := h ++ _) d v hR.app).v ?_
  cases hB : dayB d with
  | false =>
    simp only [go_sem]
    exact ⟨HSub.refl.app,by rw [AlikeK,hB]; rfl⟩
  | true =>
  have dg := dayB_G hB
  have hw0 : d.weathers ≠ [] := List.length_pos_iff.1 dg.w0
  simp only [go_sem,o1,o2,o3,o4,o5,l5]
  refine ⟨(by unfold I64; omega),?_⟩
  refine rvC_use (in_c _ _ _).v ?_
  cases e1 : inB w 0 ((d.weathers.length : Int) - 1) with
  | false =>
    simp only [go_sem]
    exact ⟨HSub.refl.app,by rw [AlikeK,e1]; simp⟩
  | true =>
  obtain ⟨p,x,p1,p2,p3⟩ := hR.weathers.at_ (j := 0) dg.w0
  have l6 := (SlI.use p3).1
  have ehd : d.weathers[0]'dg.w0 = d.weathers.headD [] := head_at _
  rw [ehd] at l6
  change _ = some (AV.int .i64 (slotsD d : Nat)) at l6
  simp only [go_sem,o1,o2,o3,o4,o5,p1,p2,l6]
  have hs1 := dg.s1
  refine ⟨(by unfold I64; omega),?_⟩
  refine rvC_use (in_c _ _ _).v ?_
  cases e2 : inB s 0 ((slotsD d : Int) - 1) with
  | false =>
    simp only [go_sem]
    exact ⟨HSub.refl.app,by rw [AlikeK,e2]; simp⟩
  | true =>
  simp only [go_sem,o1,o2,o3,o4,o5,l5]
  simp only [inB,Bool.and_eq_true,decide_eq_true_eq] at e1 e2
  obtain ⟨wn,rfl⟩ : ∃ wn : Nat,w = wn := ⟨w.toNat,by omega⟩
  obtain ⟨sn,rfl⟩ : ∃ sn : Nat,s = sn := ⟨s.toNat,by omega⟩
  have hwl : ∀ i,i < d.weathers.length → sn < (weaD d i).length ∧ (weaD d i).length < 1000000 := fun i hi => by
    rw [weaD_at hi]
    have := (dg.rows _ (List.getElem_mem hi)).1
    omega
  have hK : AlikeK w0 d wn sn = fun y H => ∃ x,y = .tup [x,.int .i64 0] ∧ SlI w0 H x (alikeD d wn sn) := by
    funext y H
    rw [AlikeK,if_pos]
    · simp
    · simp [hB,inB]; omega
  rw [hK]
  change lp _ _ _ _ _ _ _ _ _ (h ++ [some (.row (dayC v))])
  rw [← eK0]
  refine lp_ind (S := Nat × Heap × AV × List Int) (F := fun x => [(1,.int .i64 (wn : Int)),(2,.int .i64 (sn : Int)),(3,.ptr (.own h.length 0)),(8,x.2.2.1),(35,.int .i64 d.weathers.length),(36,.int .i64 x.1)]) (H := fun x => x.2.1) (meas := fun x => d.weathers.length - x.1)
    (Inv := fun x => x.1 ≤ d.weathers.length ∧ x.2.2.2 = filtN (fun i => looksB d i wn sn) x.1 ∧ Gro K0 x.2.1 1 x.2.2.2.length x.2.2.1 (ints x.2.2.2)) (0,K0,.nilS,[]) ⟨Nat.zero_le _,rfl,Gro.nil HSub.refl⟩ rfl rfl ?_
  rintro ⟨j,H,ov,out⟩ ⟨hj,ho,g⟩ ih
  simp only at hj ho g ih
  refine lp_step hmix L41_0_g [1,2,3,8,35,36] L41_0.eq_1 ?_
  have gH := g.sub.2 _ _ g0
  have bH : ∀ L,(H ++ L)[h.length]? = some (some (.row (dayC v))) := fun L => getElem?_app_left gH
  have sH := s0.trans g.sub
  have hol : out.length ≤ j := ho ▸ filtN_len
  rcases Nat.lt_or_ge j d.weathers.length with hjl | hjl
  · have f0 : (j : Int) < d.weathers.length := by omega
    simp only [go_sem,gH,bH,dayC,l5,f0,o1,o2,o3,o4,o5]
    refine rvC_use (alike_c d v .nilM H.length j wn sn (hR.toDayS.sub (sH.trans HSub.refl.app)) (by simp [dayC]) hjl (by omega) (hwl j hjl).1 (hwl wn (by omega)).1 (hwl j hjl).2).v ?_
    have hnext := filtN_succ (p := fun i => looksB d i wn sn) (n := j)
    cases e : looksB d j wn sn with
    | true =>
      rw [if_pos e,← ho] at hnext
      obtain ⟨G,eG,gG⟩ := (g.app (L := [some (.row (dayC v ++ [.nilM])),some (.row [.int .i64 (j : Int)])])).more (w0 := w0) (b := 8) (k := H.length + 1) (x := [.int .i64 (j : Int)]) (f := true) (by simp) rfl rfl (by omega) (by omega)
      simp only [go_sem,dayC] at eG
      simp only [go_sem,eG]
      have := ih (j + 1,G,_,out ++ [(j : Int)]) ⟨by simp only; omega,hnext.symm,by simpa [ints] using gG⟩ (by simp only; omega)
      exact ⟨(by unfold I64; omega),by simpa using this⟩
    | false =>
      rw [if_neg (by rw [e]; simp),← ho] at hnext
      simp only [go_sem]
      have := ih (j + 1,H ++ [some (.row (dayC v ++ [.nilM]))],ov,out) ⟨by simp only; omega,hnext.symm,g.app⟩ (by simp only; omega)
      exact ⟨(by unfold I64; omega),by simpa [dayC] using this⟩
  · have f0 : ¬ (j : Int) < d.weathers.length := by omega
    obtain rfl : j = d.weathers.length := by omega
    simp only [go_sem,gH,bH,dayC,l5,f0]
    refine ⟨sH,_,rfl,?_⟩
    rw [← show out = alikeD d wn sn from ho]; exact g.sli rfl
end Go.Proofs.Ab
namespace Go.Proofs.Ab
open Go Go.Proofs
variable {w0 : World} {h : Heap}
attribute [local irreducible] ACall ACallV AYield DCall DCallV rvC rdC lp rg dr ex un rv rd'
theorem Gr2.keep {G H : Heap} {es n io : Nat} {ov : AV} {vs : List AV} (g : Gr2 G es n io ov vs) (s : ∀ c,G[io]? = some (some c) → H[io]? = some (some c)) : Gr2 H es n io ov vs := by
  rcases g with h1 | ⟨h1,h2,h3,h4⟩
  · exact .inl h1
  · exact .inr ⟨h1,h2,s _ h3,h4⟩
theorem Gr2.one {H : Heap} {es n io : Nat} {ov : AV} {vs : List AV} (g : Gr2 H es n io ov vs) : Ab.one ov = true ∧ cellsOf ov = some [ov] := by
  rcases g with ⟨_,rfl,_⟩ | ⟨_,rfl,_⟩ <;> exact ⟨rfl,rfl⟩
theorem Gro.gro1 {K H : Heap} {es n : Nat} {ov : AV} {vs : List AV} (g : Gro K H es n ov vs) : Ab.one ov = true ∧ cellsOf ov = some [ov] := by
  rcases g.own with ⟨_,rfl,_⟩ | ⟨_,_,_,rfl,_⟩ <;> exact ⟨rfl,rfl⟩
theorem Gro.at1 {K H : Heap} {es n i : Nat} {ov : AV} {vs : List AV} {b : Blk} (g : Gro K H es n ov vs) (hi : H[i]? = some (some b)) : Gro (K.set i (some b)) H es n ov vs := by
  refine ⟨⟨by rw [List.length_set]; exact g.sub.1,fun j c e => ?_⟩,?_⟩
  · by_cases e2 : i = j
    · subst e2
      rw [List.getElem?_set_self' ] at e
      cases e3 : K[i]? with
      | none => rw [e3] at e; cases e
      | some z => rw [e3] at e; cases e; exact hi
    · rw [List.getElem?_set_ne e2] at e; exact g.sub.2 j c e
  · rw [List.length_set]; exact g.own
theorem Gro.unat {K H : Heap} {es n i : Nat} {ov : AV} {vs : List AV} {b : Blk} (g : Gro (K.set i (some b)) H es n ov vs) (hi : K[i]? = some none) : Gro K H es n ov vs ∧ H[i]? = some (some b) := by
  have hlt := get_some_lt hi
  refine ⟨⟨⟨by have := g.sub.1; rwa [List.length_set] at this,fun j c e => ?_⟩,?_⟩,g.sub.2 _ _ (List.getElem?_set_self hlt)⟩
  · refine g.sub.2 j c ?_
    rw [List.getElem?_set_ne (fun e2 => by subst e2; rw [hi] at e; cases e)]; exact e
  · have := g.own
    rwa [List.length_set] at this
theorem Gro.setN {K H : Heap} {es n i : Nat} {ov : AV} {vs : List AV} {b : Option Blk} (g : Gro K H es n ov vs) (hi : K[i]? = some none) : Gro K (H.set i b) es n ov vs := by
  have hlt := get_some_lt hi
  refine ⟨⟨by rw [List.length_set]; exact g.sub.1,fun j c e => ?_⟩,?_⟩
  · rw [List.getElem?_set_ne (fun e2 => by subst e2; rw [hi] at e; cases e)]; exact g.sub.2 j c e
  · rcases g.own with h1 | ⟨io,h1,h2,h3,h4,h5⟩
    · exact .inl h1
    · exact .inr ⟨io,h1,h2,h3,by rw [List.getElem?_set_ne (by omega)]; exact h4,h5⟩
theorem Gro.slo {K H : Heap} {n : Nat} {ov : AV} {l : List Int} (g : Gro K H 1 n ov (ints l)) (hn : n = l.length) : SlO w0 H ov l := by
  refine ⟨g.sli hn,fun e => ?_⟩
  rcases g.own with ⟨_,rfl,_⟩ | ⟨io,_,h0,_⟩
  · rfl
  · subst e; exact absurd hn h0
theorem rbegin_c (d : DayD) (v : DayV) (hR : DayR w0 h d v) : ACall Try.prog w0 40 [.agg (dayC v)] h fun y H => HSub h H ∧ ∃ nv,y = .agg (stC nv) ∧ StS w0 H (beginD d) nv := by
  refine ACall_sx hmix mf40_ok mf40_b mf40_g (Nat.le_of_ble_eq_true rfl) fun hb ha => ex_in ?_
  obtain ⟨o1,o2,o3,o4,o5⟩ := hR.ones
  obtain ⟨l1,l2,l3,l4,l5⟩ := hR.lens
  have n3 := hR.l3
  have n4 := hR.l4
  obtain ⟨K0,eK0⟩ : ∃ K0 : Heap,K0 = h ++ [some (.row (dayC v))] := ⟨_,rfl⟩
  have s0 : HSub h K0 := eK0 ▸ HSub.refl.app
  have g0 : K0[h.length]? = some (some (.row (dayC v))) := by rw [eK0]; simp
  have k0 : K0.length = h.length + 1 := by rw [eK0]; simp
  have hD0 : DayS w0 K0 d v := hR.toDayS.sub s0
  simp only [go_sem,mf40,o1,o2,o3,o4,o5]
  obtain ⟨b2,eb2⟩ : ∃ b,b = h.length + 1 := ⟨_,rfl⟩
  obtain ⟨b3,eb3⟩ : ∃ b,b = h.length + 2 := ⟨_,rfl⟩
  rw [← eb2,← eb3]
  refine lp_ind (S := Nat × Heap × AV × AV × Nat × Nat) (F := fun s => [(1,.ptr (.own h.length 0)),(2,.ptr (.own b2 0)),(3,.ptr (.own b3 0)),(4,.int .i64 s.1)]) (H := fun s => s.2.1) (meas := fun s => d.planes.length - s.1)
    (Inv := fun s => s.1 ≤ d.planes.length ∧ HSub K0 s.2.1 ∧ s.2.1[b2]? = some (some (.row [.nilS,.nilS,.nilS])) ∧ s.2.1[b3]? = some (some (.row [s.2.2.1,s.2.2.2.1,.nilS])) ∧ b3 < s.2.2.2.2.1 ∧ b3 < s.2.2.2.2.2 ∧ (s.1 ≠ 0 → s.2.2.2.2.1 ≠ s.2.2.2.2.2 ∧ s.2.2.2.2.2 < s.2.1.length) ∧
      Gr2 s.2.1 1 s.1 s.2.2.2.2.1 s.2.2.1 (ints ((d.planes.take s.1).map (·.at_))) ∧ Gr2 s.2.1 1 s.1 s.2.2.2.2.2 s.2.2.2.1 (ints (List.replicate s.1 0)))
    (0,h ++ [some (.row (dayC v)),some (.row [.nilS,.nilS,.nilS]),some (.row [.nilS,.nilS,.nilS])],.nilS,.nilS,b3 + 1,b3 + 1) ⟨by simp,by rw [eK0]; exact ⟨by simp,fun i b e => by rw [show h ++ [some (.row (dayC v)),some (.row [.nilS,.nilS,.nilS]),some (.row [.nilS,.nilS,.nilS])] = (h ++ [some (.row (dayC v))]) ++ [some (.row [.nilS,.nilS,.nilS]),some (.row [.nilS,.nilS,.nilS])] by simp]; exact getElem?_app_left e⟩,by rw [eb2]; simp,by rw [eb3]; simp,by simp,by simp,fun e => absurd rfl e,.inl ⟨rfl,rfl,rfl⟩,.inl ⟨rfl,rfl,rfl⟩⟩ rfl rfl ?_
  rintro ⟨j,G,pv,lv,i1,i2⟩ ⟨hj,sG,gb2,gb3,hi1,hi2,hne,g1,g2⟩ ih
  simp only at hj sG gb2 gb3 hi1 hi2 hne g1 g2 ih
  refine lp_step hmix L40_0_g [1,2,3,4] L40_0.eq_1 ?_
  have gG := sG.2 _ _ g0
  have bG : ∀ L,(G ++ L)[h.length]? = some (some (.row (dayC v))) := fun L => getElem?_app_left gG
  have b3G : ∀ L,(G ++ L)[b3]? = some (some (.row [pv,lv,.nilS])) := fun L => getElem?_app_left gb3
  rcases Nat.lt_or_ge j d.planes.length with hjl | hjl
  · have f0 : (j : Int) < d.planes.length := by omega
    obtain ⟨p,p1,p2K⟩ := hD0.plane hjl
    have p2 : ∀ L,rdn w0 (G ++ L) p 5 = some d.planes[j].c := fun L => (sG.app (L := L)).rdn (by simpa using p2K [])
    have t0 : ∀ L,rd w0 (G ++ L) (p.add 0) = some (.int .i64 d.planes[j].at_) := fun L => rd_get (p2 L) rfl
    have t0' := t0 []
    rw [List.append_nil] at t0'
    simp only [go_sem,gG,bG,dayC,l3,f0]
    refine dr_fl hmix D40_0.eq_1 (by kernel_rfl) ?_
    obtain ⟨a,ea⟩ : ∃ a,a = d.planes[j].at_ := ⟨_,rfl⟩
    rw [← ea] at t0 t0'
    obtain ⟨G2,e1,e2,e3,e4⟩ := app_grow (w0 := w0) (b := 8) (k := G.length) (x := [.int .i64 a]) (f := true) (es := 1) (show _ from g1.keep (H := G ++ [some (.row [.int .i64 a])]) fun c e => getElem?_app_left e) (by simp) rfl rfl (by omega) (by omega)
    rw [List.length_append,List.length_singleton] at e1 e2 e3
    have hk2 : ∀ (i : Nat) c,(j ≠ 0 → i ≠ i1) → G[i]? = some (some c) → G2[i]? = some (some c) := fun i c hi e => e4 i c hi (getElem?_app_left e)
    have q3 := hk2 b3 _ (fun _ => by omega) gb3
    have q3' : ∀ L,(G2 ++ L)[b3]? = some (some (.row [pv,lv,.nilS])) := fun L => getElem?_app_left q3
    obtain ⟨G3,a1,a2,a3,a4⟩ := app_grow (w0 := w0) (b := 8) (k := G2.length) (x := [.int .i64 0]) (f := true) (es := 1) (show _ from (g2.keep (H := G2) fun c e => hk2 i2 c (fun h0 => Ne.symm (hne h0).1) e).keep (H := G2 ++ [some (.row [.int .i64 0])]) fun c e => getElem?_app_left e) (by simp) rfl rfl (by omega) (by omega)
    rw [List.length_append,List.length_singleton] at a1 a2 a3
    have hk3 : ∀ (i : Nat) c,(j ≠ 0 → i ≠ i2) → G2[i]? = some (some c) → G3[i]? = some (some c) := fun i c hi e => a4 i c hi (getElem?_app_left e)
    have r3 := hk3 b3 _ (fun _ => by omega) q3
    have r3' : ∀ L,(G3 ++ L)[b3]? = some (some (.row [pv,lv,.nilS])) := fun L => getElem?_app_left r3
    have r3l := get_lt r3
    have hset : ∀ r,(G3.set b3 r)[b3]? = some r := fun r => List.getElem?_set_self r3l
    simp only [go_sem,gG,bG,dayC,gb3,b3G,p1,t0,t0',e1,q3,q3',a1,r3,r3',hset,List.set_set]
    refine ⟨(by unfold I64; omega),?_⟩
    have hnew1 : (d.planes.take (j + 1)).map (·.at_) = (d.planes.take j).map (·.at_) ++ [a] := by
      rw [List.take_add_one,List.getElem?_eq_getElem hjl,Option.toList,List.map_append]; simp [ea]
    have hle : G.length ≤ G3.length := by omega
    have keepN : ∀ (i : Nat) c,(j ≠ 0 → i ≠ i1 ∧ i ≠ i2) → i ≠ b3 → G[i]? = some (some c) → ∀ r,(G3.set b3 r)[i]? = some (some c) := fun i c hi hb e r => by
      rw [List.getElem?_set_ne (Ne.symm hb)]
      exact hk3 i c (fun h0 => (hi h0).2) (hk2 i c (fun h0 => (hi h0).1) e)
    have := ih (j + 1,G3.set b3 (some (.row [.sl (.own (G.length + 1) 0) (j + 1) 1 false,.sl (.own (G2.length + 1) 0) (j + 1) 1 false,.nilS])),.sl (.own (G.length + 1) 0) (j + 1) 1 false,.sl (.own (G2.length + 1) 0) (j + 1) 1 false,G.length + 1,G2.length + 1)
      ⟨by simp only; omega,⟨by simp only [List.length_set]; have := sG.1; omega,fun i c e => keepN i c (fun _ => by have := get_lt e; omega) (by have := get_lt e; omega) (sG.2 _ _ e) _⟩,keepN b2 _ (fun _ => by omega) (by omega) gb2 _,hset _,by have := get_lt gb3; simp only; omega,by have := get_lt gb3; simp only; omega,fun _ => by simp only [List.length_set]; omega,?_,?_⟩ (by simp only; omega)
    · simpa using this
    · refine .inr ⟨by simp,rfl,?_,by simp [hnew1,ints]; omega⟩
      simp only
      have hb3 : b3 < G.length := get_lt gb3
      rw [List.getElem?_set_ne (by omega),hk3 (G.length + 1) _ (fun h0 => by have := (hne h0).2; omega) e3,hnew1]
      simp [ints]
    · refine .inr ⟨by simp,rfl,?_,by simp [ints]⟩
      simp only
      have hb3 : b3 < G.length := get_lt gb3
      rw [List.getElem?_set_ne (by omega),a3]
      simp [ints,List.replicate_succ']
  · have f0 : ¬ (j : Int) < d.planes.length := by omega
    obtain rfl : j = d.planes.length := by omega
    simp only [go_sem,gG,bG,dayC,l3,f0]
    rw [List.take_length] at g1
    obtain ⟨K1,eK1⟩ : ∃ K1 : Heap,K1 = G.set b3 none := ⟨_,rfl⟩
    have hb3 : b3 < G.length := get_lt gb3
    have k1l : K1.length = G.length := by rw [eK1,List.length_set]
    have sK1 : HSub K0 K1 := ⟨by have := sG.1; omega,fun i c e => by rw [eK1,List.getElem?_set_ne (by have := get_lt e; omega)]; exact sG.2 _ _ e⟩
    have xK1 : K1[b3]? = some none := by rw [eK1,List.getElem?_set_self hb3]
    have K1b2 : K1[b2]? = some (some (.row [.nilS,.nilS,.nilS])) := by rw [eK1,List.getElem?_set_ne (by omega)]; exact gb2
    have K1g : K1[h.length]? = some (some (.row (dayC v))) := sK1.2 _ _ g0
    have q1 : SlO w0 K1 pv (d.planes.map (·.at_)) := (g1.keep (H := K1) fun c e => by rw [eK1,List.getElem?_set_ne (by omega)]; exact e).gro.slo (by simp)
    have q2 : SlO w0 K1 lv (List.replicate d.planes.length 0) := (g2.keep (H := K1) fun c e => by rw [eK1,List.getElem?_set_ne (by omega)]; exact e).gro.slo (by simp)
    have q1k : SlO w0 (K1.set b2 none) pv (d.planes.map (·.at_)) := (g1.keep (H := K1.set b2 none) fun c e => by rw [eK1,List.getElem?_set_ne (by omega),List.getElem?_set_ne (by omega)]; exact e).gro.slo (by simp)
    have q2k : SlO w0 (K1.set b2 none) lv (List.replicate d.planes.length 0) := (g2.keep (H := K1.set b2 none) fun c e => by rw [eK1,List.getElem?_set_ne (by omega),List.getElem?_set_ne (by omega)]; exact e).gro.slo (by simp)
    refine lp_ind (S := Nat × Heap × AV) (F := fun s => [(1,.ptr (.own h.length 0)),(2,.ptr (.own b2 0)),(3,.ptr (.own b3 0)),(5,.int .i64 s.1)]) (H := fun s => s.2.1) (meas := fun s => d.people.length - s.1)
      (Inv := fun s => s.1 ≤ d.people.length ∧ Gro K1 s.2.1 1 s.1 s.2.2 (ints ((d.people.take s.1).map (·.at_))) ∧ s.2.1[b3]? = some (some (.row [pv,lv,s.2.2]))) (0,G,.nilS) ⟨by simp,Gro.nil ⟨by simp only; omega,fun i c e => ?_⟩,gb3⟩ rfl rfl ?_
    · by_cases e2 : b3 = i
      · subst e2; rw [xK1] at e; cases e
      · rwa [eK1,List.getElem?_set_ne e2] at e
    clear ih gG bG b3G g1 g2 gb2 gb3
    rintro ⟨j,H,qv⟩ ⟨hj,gr,gx⟩ ih
    simp only at hj gr gx ih
    refine lp_step hmix L40_1_g [1,2,3,5] L40_1.eq_1 ?_
    have gH := gr.sub.2 _ _ K1g
    have bH : ∀ L,(H ++ L)[h.length]? = some (some (.row (dayC v))) := fun L => getElem?_app_left gH
    have bxH : ∀ L,(H ++ L)[b3]? = some (some (.row [pv,lv,qv])) := fun L => getElem?_app_left gx
    have o1p := q1.s.one
    have o1l := q2.s.one
    have o1q := gr.gro1
    rcases Nat.lt_or_ge j d.people.length with hjl | hjl
    · have f1 : (j : Int) < d.people.length := by omega
      obtain ⟨p,p1,p2K⟩ := hD0.person hjl
      have p2 : ∀ L,rdn w0 (H ++ L) p 5 = some d.people[j].c := fun L => ((sK1.trans gr.sub).app (L := L)).rdn (by simpa using p2K [])
      have t0 : ∀ L,rd w0 (H ++ L) (p.add 0) = some (.int .i64 d.people[j].at_) := fun L => rd_get (p2 L) rfl
      have t0' := t0 []
      rw [List.append_nil] at t0'
      obtain ⟨a,ea⟩ : ∃ a,a = d.people[j].at_ := ⟨_,rfl⟩
      rw [← ea] at t0 t0'
      obtain ⟨G2,eG,gG2⟩ := ((gr.at1 gx).app (L := [some (.row [.int .i64 a])])).more (w0 := w0) (b := 8) (k := H.length) (x := [.int .i64 a]) (f := true) (by simp) rfl rfl (by omega) (by omega)
      obtain ⟨gG3,gx3⟩ := gG2.unat xK1
      have gx3' : ∀ L,(G2 ++ L)[b3]? = some (some (.row [pv,lv,qv])) := fun L => getElem?_app_left gx3
      simp only [go_sem,gH,bH,dayC,l4,f1]
      refine dr_fl hmix D40_1.eq_1 (by kernel_rfl) ?_
      simp only [go_sem,gH,bH,dayC,gx,bxH,p1,t0,t0',eG,gx3,gx3']
      refine ⟨(by unfold I64; omega),?_⟩
      have hnew : ints ((d.people.take (j + 1)).map (·.at_)) = ints ((d.people.take j).map (·.at_)) ++ [.int .i64 a] := by
        rw [List.take_add_one,List.getElem?_eq_getElem hjl,Option.toList,List.map_append]; simp [ea,ints]
      have := ih (j + 1,G2.set b3 (some (.row [pv,lv,.sl (.own (H.length + 1) 0) (j + 1) 1 false])),.sl (.own (H.length + 1) 0) (j + 1) 1 false) ⟨by simp only; omega,by simp only; rw [hnew]; exact (by simpa using gG3.setN xK1),List.getElem?_set_self (get_lt gx3)⟩ (by simp only; omega)
      simpa using this
    · have f1 : ¬ (j : Int) < d.people.length := by omega
      obtain rfl : j = d.people.length := by omega
      have hb2 := gr.sub.2 _ _ K1b2
      have hb2' : ∀ L,(H ++ L)[b2]? = some (some (.row [.nilS,.nilS,.nilS])) := fun L => getElem?_app_left hb2
      have hs2 : ∀ r,(H.set b2 r)[b2]? = some r := fun r => List.getElem?_set_self (get_lt hb2)
      simp only [go_sem,gH,bH,dayC,l4,f1,gx,bxH,hb2,hb2',hs2,o1p.1,o1l.1,o1q.1,o1p.2,o1l.2,o1q.2]
      have sK2 : HSub h (K1.set b2 none) := ⟨by have := s0.1; have := sK1.1; rw [List.length_set]; omega,fun i c e => by rw [List.getElem?_set_ne (by have := get_lt e; omega)]; exact sK1.2 _ _ (s0.2 _ _ e)⟩
      have sH : ∀ r,HSub (K1.set b2 none) (H.set b2 r) := fun r => ⟨by rw [List.length_set,List.length_set]; exact gr.sub.1,fun i c e => by
        by_cases e2 : b2 = i
        · subst e2; rw [List.getElem?_set_self (get_lt K1b2)] at e; cases e
        · rw [List.getElem?_set_ne e2] at e ⊢; exact gr.sub.2 _ _ e⟩
      rw [List.take_length] at gr
      refine ⟨sK2.trans (sH _),⟨pv,lv,qv⟩,rfl,?_,?_,?_⟩
      · exact q1k.sub (sH _)
      · exact q2k.sub (sH _)
      · have g4 : Gro K0 (H.set b2 (some (.row [pv,lv,qv]))) 1 d.people.length qv (ints (d.people.map (·.at_))) := by
          refine ⟨⟨by rw [List.length_set]; have := sK1.1; have := gr.sub.1; omega,fun i c e => by rw [List.getElem?_set_ne (by have := get_lt e; omega)]; exact gr.sub.2 _ _ (sK1.2 _ _ e)⟩,?_⟩
          rcases gr.own with h1 | ⟨io,h1,h2,h3,h4,h5⟩
          · exact .inl h1
          · have := sK1.1
            exact .inr ⟨io,by omega,h2,h3,by rw [List.getElem?_set_ne (by omega)]; exact h4,h5⟩
        exact g4.slo (by simp)
end Go.Proofs.Ab
namespace Go.Proofs.Ab
open Go Go.Proofs
variable {w0 : World} {h : Heap}
attribute [local irreducible] ACall ACallV AYield DCall DCallV rvC rdC lp rg dr ex un rv rd'
theorem count_take {l : List Int} {j : Nat} {p : Int} (hj : j < l.length) : (l.take (j + 1)).count p = (l.take j).count p + if l[j] = p then 1 else 0 := by
  rw [List.take_add_one,List.getElem?_eq_getElem hj,List.count_append,Option.toList,List.count_singleton]
  simp
theorem crowded_c (d : DayD) (v : DayV) (s : StateD) (pv : AV) (hS : DayS w0 h d v) (hp : SlI w0 h pv s.planes) (hl : d.places.length ≤ 50) (hn : s.planes.length < 1000000) : DCall Try.prog w0 85 [.agg (dayC v),pv] h (.bool ((List.range d.places.length).any (crowdB d s))) h := by
  refine DCall_quiet hmix mf85_ok mf85_b mf85_g (Nat.le_of_ble_eq_true rfl) (by simp [AV.bdd,AV.bdds]) fun hb ha => ex_in ?_
  obtain ⟨o1,o2,o3,o4,o5⟩ := hS.ones
  obtain ⟨l1,l2,l3,l4,l5⟩ := hS.lens
  obtain ⟨lp,q,qi,qr⟩ := SlI.use hp
  simp only [go_sem,mf85,o1,o2,o3,o4,o5]
  refine lp_all (fun j => [(1,pv),(2,.ptr (.own h.length 0)),(5,.int .i64 j)]) (fun j => crowdB d s j = false) d.places.length rfl (fun j hj hall ih => ?_) (fun es => ?_)
  · refine lp_step hmix L85_1_g [1,2,5] L85_1.eq_1 ?_
    have i3 : (j : Int) < d.places.length := by omega
    obtain ⟨p,p1,p2⟩ := hS.place hj
    have t0 : ∀ L,rd w0 (h ++ L) (p.add 0) = some (.int .i64 d.places[j].berths) := fun L => rd_get (p2 L) rfl
    have t0' := t0 []
    rw [List.append_nil] at t0'
    simp only [go_sem,l1,i3]
    refine lp_for (S := Unit) (fun i _ => [(1,pv),(2,.ptr (.own h.length 0)),(5,.int .i64 j),(6,.int .i64 ((s.planes.take i).count (j : Int) : Nat)),(7,.int .i64 (i : Int))]) (fun _ _ => h ++ [some (.row (dayC v))]) (fun _ _ => True) s.planes.length () trivial (by simp) rfl (fun i _ hi _ ih2 => ?_) (fun _ _ => ?_)
    · refine lp_step hmix L85_0_g [1,2,5,6,7] L85_0.eq_1 ?_
      have i4 : (i : Int) < s.planes.length := by omega
      have r0 := qi i hi
      have r1 := qr i hi
      have hct := count_take (l := s.planes) (j := i) (p := (j : Int)) hi
      have hcl : (s.planes.take i).count (j : Int) ≤ i := Nat.le_trans List.count_le_length (by rw [List.length_take]; omega)
      simp only [go_sem,lp,i4,r0,r1]
      refine ⟨fun e => ?_,fun e => ?_⟩
      · rw [if_pos e] at hct
        refine ⟨(by unfold I64; omega),(by unfold I64; omega),?_⟩
        have := ih2 () trivial
        rw [hct] at this
        simpa [dayC] using this
      · rw [if_neg e] at hct
        refine ⟨(by unfold I64; omega),?_⟩
        have := ih2 () trivial
        rw [hct] at this
        simpa [dayC] using this
    · refine lp_step hmix L85_0_g [1,2,5,6,7] L85_0.eq_1 ?_
      have i4 : ¬ (s.planes.length : Int) < s.planes.length := by omega
      simp only [go_sem,lp,i4,p1,t0,t0',dayC]
      rw [List.take_length]
      have hc : crowdB d s j = decide (d.places[j].berths < s.planes.count (j : Int)) := by rw [crowdB,getD_at hj]
      refine ⟨fun e => ?_,fun e => ⟨(by unfold I64; omega),ih (by rw [hc]; exact decide_eq_false e)⟩⟩
      have : (List.range d.places.length).any (crowdB d s) = true := List.any_eq_true.2 ⟨j,List.mem_range.2 hj,by rw [hc]; exact decide_eq_true e⟩
      rw [this]
  refine lp_step hmix L85_1_g [1,2,5] L85_1.eq_1 ?_
  have x1 : ¬ (d.places.length : Int) < d.places.length := by omega
  simp only [go_sem,l1,x1]
  have : (List.range d.places.length).any (crowdB d s) = false := List.any_eq_false.2 fun x hx => by simp [es x (List.mem_range.1 hx)]
  rw [this]
end Go.Proofs.Ab
namespace Go.Proofs.Ab
open Go Go.Proofs
variable {w0 : World} {h : Heap}
attribute [local irreducible] ACall ACallV AYield DCall DCallV rvC rdC lp rg dr ex un rv rd'
theorem cntS_at {n : Nat} {l : List Int} {p : PlaneD} (hp : placeB n p.at_ = true) (hl : l.length = n) {j : Nat} (hj : j < n) : (cntS n l p).getD j 0 = l.getD j 0 + if p.at_ = (j : Int) then 1 else 0 := by
  have hb := placeB_iff.1 hp
  rw [cntS,if_pos hp]
  by_cases e : p.at_ = (j : Int)
  · rw [if_pos e,e,Int.toNat_natCast,getD_at (by simpa using (by omega : j < l.length))]
    simp
  · rw [if_neg e,Int.add_zero]
    simp only [List.getD_eq_getElem?_getD]
    rw [List.getElem?_set_ne (by omega)]
theorem crowd_beg {d : DayD} {j : Nat} : crowdB d (beginD d) j = decide ((d.places.getD j ⟨0,false⟩).berths < ((d.planes.map (·.at_)).count (j : Int) : Nat)) := rfl
theorem cntP_count {n : Nat} {l : List PlaneD} (hl : ∀ p ∈ l,placeB n p.at_ = true) {j : Nat} (hj : j < n) : (cntP n l).getD j 0 = ((l.map (·.at_)).count (j : Int) : Nat) := by
  have : ∀ (l : List PlaneD) (c : List Int),(∀ p ∈ l,placeB n p.at_ = true) → c.length = n → (l.foldl (cntS n) c).getD j 0 = c.getD j 0 + ((l.map (·.at_)).count (j : Int) : Nat) := by
    intro l
    induction l with
    | nil => intro c _ _; simp
    | cons p l ih =>
      intro c hp hc
      rw [List.foldl_cons,ih _ (fun q hq => hp q (List.mem_cons_of_mem _ hq)) (by rw [cntS_len,hc]),cntS_at (hp p (List.mem_cons_self)) hc hj,List.map_cons,List.count_cons]
      by_cases e : p.at_ = (j : Int)
      · simp [e]; omega
      · simp [e]
  rw [cntP,this l _ hl (by simp),List.getD_eq_getElem?_getD]
  simp [hj]
structure DaySp (d : DayD) : Prop where
  n : inB d.places.length 1 5 = true
  l : d.links.length ≤ 20
  p : d.planes.length ≤ 2
  q : d.people.length ≤ 4
  w : inB d.weathers.length 1 6 = true
  s : inB (slotsD d) 1 5 = true
  br : ∀ j,j < d.places.length → inB (d.places.getD j ⟨0,false⟩).berths 0 2 = true
  lk : ∀ j,j < d.links.length → (placeB d.places.length (d.links.getD j ⟨0,0⟩).one = true ∧ placeB d.places.length (d.links.getD j ⟨0,0⟩).other = true ∧ (d.links.getD j ⟨0,0⟩).one ≠ (d.links.getD j ⟨0,0⟩).other) ∧ ∀ k,k < j → linkSame (d.links.getD k ⟨0,0⟩) (d.links.getD j ⟨0,0⟩) = false
  pn : ∀ j,j < d.planes.length → planeB d.places.length (d.planes.getD j ⟨0,0,0,0,0⟩) = true
  pe : ∀ j,j < d.people.length → personB d.places.length (d.people.getD j ⟨0,0,0,0,0⟩) = true
  we : ∀ j,j < d.weathers.length → (weaD d j).length = slotsD d ∧ ∀ t,t < (weaD d j).length → bitB d.places.length ((weaD d j).getD t 0) = true
  cr : (List.range d.places.length).any (crowdB d (beginD d)) = false
theorem any_take {l : List LinkD} {j : Nat} (hj : j ≤ l.length) {f : LinkD → Bool} : (l.take j).any f = false ↔ ∀ k,k < j → f (l.getD k ⟨0,0⟩) = false := by
  rw [List.any_eq_false]
  constructor
  · intro h k hk
    have := h (l.getD k ⟨0,0⟩) (by rw [getD_at (by omega)]; exact List.mem_take_iff_getElem.2 ⟨k,by omega,rfl⟩)
    simpa using this
  · intro h x hx
    obtain ⟨k,hk,rfl⟩ := List.mem_take_iff_getElem.1 hx
    have := h k (by omega)
    rw [getD_at (by omega)] at this
    simpa using this
theorem dayB_sp {d : DayD} : dayB d = true ↔ DaySp d := by
  have hpl : ∀ p : PlaneD,planeB d.places.length p = true → placeB d.places.length p.at_ = true := fun p h => by
    simp only [planeB,Bool.and_eq_true] at h; exact h.1
  have hW : ∀ j,j < d.weathers.length → d.weathers.getD j [] = weaD d j := fun j _ => rfl
  constructor
  · intro e
    have dg := dayB_G e
    simp only [dayB,Bool.and_eq_true,decide_eq_true_eq,← all_range (x := (⟨0,0,0,0,0⟩ : PlaneD)),← all_range (x := (⟨0,0,0,0,0⟩ : PersonD)),← all_range (x := ([] : List Int)),all_range_iff] at e
    obtain ⟨e1,e2,e3,e4,e5,e6,e7,e8,e9,e10⟩ := e
    refine ⟨e1,e2,e3,e4,e5,?_,fun j hj => ?_,fun j hj => ?_,e6,e7,fun j hj => ?_,?_⟩
    · have := dg.s0; have := dg.s1; simp [inB]; omega
    · have := e10 j hj; simp only [berthB,Bool.and_eq_true] at this; exact this.1
    · have := e8 j hj
      simp only [linkB,Bool.and_eq_true,decide_eq_true_eq,Bool.not_eq_true'] at this
      exact ⟨⟨this.1,this.2.1,this.2.2.1⟩,(any_take (by omega)).1 this.2.2.2⟩
    · have := e9 j hj
      simp only [weatherB,Bool.and_eq_true,decide_eq_true_eq,← all_range (x := (0 : Int)),all_range_iff] at this
      exact this.2
    · rw [List.any_eq_false]
      intro j hj
      have hj := List.mem_range.1 hj
      have := e10 j hj
      simp only [berthB,Bool.and_eq_true,decide_eq_true_eq] at this
      have hc := cntP_count (n := d.places.length) (l := d.planes) (fun p hp => by
        obtain ⟨i,hi,rfl⟩ := List.getElem_of_mem hp
        have := e6 i hi
        rw [getD_at hi] at this; exact hpl _ this) hj
      rw [hc] at this
      rw [crowd_beg,decide_eq_true_eq]
      omega
  · intro s
    have hs := s.s
    simp only [dayB,Bool.and_eq_true,decide_eq_true_eq,← all_range (x := (⟨0,0,0,0,0⟩ : PlaneD)),← all_range (x := (⟨0,0,0,0,0⟩ : PersonD)),← all_range (x := ([] : List Int)),all_range_iff]
    refine ⟨s.n,s.l,s.p,s.q,s.w,s.pn,s.pe,fun j hj => ?_,fun j hj => ?_,fun j hj => ?_⟩
    · obtain ⟨⟨h1,h2,h3⟩,h4⟩ := s.lk j hj
      simp only [linkB,Bool.and_eq_true,decide_eq_true_eq,Bool.not_eq_true']
      exact ⟨h1,h2,h3,(any_take (by omega)).2 h4⟩
    · obtain ⟨h1,h2⟩ := s.we j hj
      simp only [weatherB,Bool.and_eq_true,decide_eq_true_eq,← all_range (x := (0 : Int)),all_range_iff]
      exact ⟨by rw [hW j hj,h1]; exact hs,h1,h2⟩
    · have hc := cntP_count (n := d.places.length) (l := d.planes) (fun p hp => by
        obtain ⟨i,hi,rfl⟩ := List.getElem_of_mem hp
        have := s.pn i hi
        rw [getD_at hi] at this; exact hpl _ this) hj
      have h2 := List.any_eq_false.1 s.cr j (List.mem_range.2 hj)
      rw [crowd_beg,decide_eq_true_eq] at h2
      simp only [berthB,Bool.and_eq_true,decide_eq_true_eq,hc]
      exact ⟨s.br j hj,by omega⟩
theorem day_no {d : DayD} (h : ¬ DaySp d) : dayB d = false := by
  rw [Bool.eq_false_iff]; exact fun e => h (dayB_sp.1 e)
end Go.Proofs.Ab
namespace Go.Proofs.Ab
open Go Go.Proofs
variable {w0 : World} {h : Heap}
attribute [local irreducible] ACall ACallV AYield DCall DCallV rvC rdC lp rg dr ex un rv rd'
theorem rday_c (d : DayD) (v : DayV) (hR : DayR w0 h d v) : DCall Try.prog w0 32 [.agg (dayC v)] h (.bool (dayB d)) h := by
  refine DCall_forget trivial (ACall_sx hmix mf32_ok mf32_b mf32_g (Nat.le_of_ble_eq_true rfl) fun hb ha => ex_in ?_)
  obtain ⟨o1,o2,o3,o4,o5⟩ := hR.ones
  obtain ⟨l1,l2,l3,l4,l5⟩ := hR.lens
  have n1 := hR.l1
  have n2 := hR.l2
  have n3 := hR.l3
  have n4 := hR.l4
  have n5 := hR.l5
  obtain ⟨K0,eK0⟩ : ∃ K0 : Heap,K0 = h ++ [some (.row (dayC v))] := ⟨_,rfl⟩
  have s0 : HSub h K0 := eK0 ▸ HSub.refl.app
  have g0 : K0[h.length]? = some (some (.row (dayC v))) := by rw [eK0]; simp
  have b0 : ∀ L,(K0 ++ L)[h.length]? = some (some (.row (dayC v))) := fun L => getElem?_app_left g0
  have hR0 := hR.sub s0
  simp only [go_sem,mf32,o1,o2,o3,o4,o5]
  rw [show h ++ [some (Blk.row [v.pl,v.ln,v.pn,v.pe,v.we])] = K0 by rw [eK0]; rfl]
  simp only [go_sem,g0,b0,dayC,l1,l2,l3,l4,l5]
  refine rvC_use (rin_c _ _ _).v ?_
  cases c1 : inB d.places.length 1 5 with
  | false =>
    simp only [go_sem]
    exact ⟨s0,by rw [day_no fun s => by rw [s.n] at c1; cases c1]⟩
  | true =>
  by_cases c2 : (20 : Int) < d.links.length
  · simp only [go_sem,g0,b0,dayC,l1,l2,l3,l4,l5,c2]
    exact ⟨s0,by rw [day_no fun s => by have := s.l; omega]⟩
  by_cases c3 : (2 : Int) < d.planes.length
  · simp only [go_sem,g0,b0,dayC,l1,l2,l3,l4,l5,c2,c3]
    exact ⟨s0,by rw [day_no fun s => by have := s.p; omega]⟩
  by_cases c4 : (4 : Int) < d.people.length
  · simp only [go_sem,g0,b0,dayC,l1,l2,l3,l4,l5,c2,c3,c4]
    exact ⟨s0,by rw [day_no fun s => by have := s.q; omega]⟩
  simp only [go_sem,g0,b0,dayC,l1,l2,l3,l4,l5,c2,c3,c4]
  refine rvC_use (rin_c _ _ _).v ?_
  cases c5 : inB d.weathers.length 1 6 with
  | false =>
    simp only [go_sem]
    exact ⟨s0,by rw [day_no fun s => by rw [s.w] at c5; cases c5]⟩
  | true =>
  have hw0 : 0 < d.weathers.length := by simp only [inB,Bool.and_eq_true,decide_eq_true_eq] at c5; omega
  obtain ⟨pw,xw,w1,w2,w3⟩ := hR0.weathers.at_ (j := 0) hw0
  have l6 := (SlI.use w3).1
  rw [head_at (x := []) hw0] at l6
  change _ = some (AV.int .i64 (slotsD d : Nat)) at l6
  have w2' := w2 []
  rw [List.append_nil] at w2'
  simp only [go_sem,g0,b0,dayC,l5,w1,w2,w2',l6]
  refine rvC_use (rin_c _ _ _).v ?_
  cases c6 : inB (slotsD d) 1 5 with
  | false =>
    simp only [go_sem]
    exact ⟨s0,by rw [day_no fun s => by rw [s.s] at c6; cases c6]⟩
  | true =>
  simp only [go_sem]
  have c6' := c6
  simp only [inB,Bool.and_eq_true,decide_eq_true_eq] at c1 c6'
  refine lp_all (fun j => [(1,.ptr (.own h.length 0)),(3,.int .i64 (d.places.length : Int)),(4,.int .i64 j)]) (fun j => inB (d.places.getD j ⟨0,false⟩).berths 0 2 = true) d.places.length rfl (fun j hj hall ih => ?_) (fun f1 => ?_)
  · refine lp_step hmix L32_0_g [1,3,4] L32_0.eq_1 ?_
    have i3 : (j : Int) < d.places.length := by omega
    obtain ⟨p,p1,p2⟩ := hR0.toDayS.place hj
    have t0 : ∀ L,rd w0 (K0 ++ L) (p.add 0) = some (.int .i64 d.places[j].berths) := fun L => rd_get (p2 L) rfl
    have t0' := t0 []
    rw [List.append_nil] at t0'
    rw [getD_at hj] at ih
    simp only [go_sem,i3,g0,b0,dayC,p1,t0,t0']
    refine rvC_use (rin_c _ _ _).v ?_
    cases e : inB d.places[j].berths 0 2 with
    | false =>
      simp only [go_sem]
      exact ⟨s0,by rw [day_no fun s => by have := s.br j hj; rw [getD_at hj,e] at this; cases this]⟩
    | true =>
      simp only [go_sem]
      exact ⟨(by unfold I64; omega),ih e⟩
  refine lp_step hmix L32_0_g [1,3,4] L32_0.eq_1 ?_
  have x1 : ¬ (d.places.length : Int) < d.places.length := by omega
  simp only [go_sem,x1]
  have hin : ∀ x : Int,inB x 0 ((d.places.length : Int) - 1) = placeB d.places.length x := fun x => rfl
  refine lp_ind (S := Nat × Heap) (F := fun s => [(1,.ptr (.own h.length 0)),(3,.int .i64 (d.places.length : Int)),(5,.int .i64 s.1)]) (H := fun s => s.2) (meas := fun s => d.links.length - s.1)
    (Inv := fun s => s.1 ≤ d.links.length ∧ HSub K0 s.2 ∧ ∀ j,j < s.1 → (placeB d.places.length (d.links.getD j ⟨0,0⟩).one = true ∧ placeB d.places.length (d.links.getD j ⟨0,0⟩).other = true ∧ (d.links.getD j ⟨0,0⟩).one ≠ (d.links.getD j ⟨0,0⟩).other) ∧ ∀ k,k < j → linkSame (d.links.getD k ⟨0,0⟩) (d.links.getD j ⟨0,0⟩) = false)
    (0,K0) ⟨Nat.zero_le _,HSub.refl,fun j hj => absurd hj (by simp)⟩ rfl rfl ?_
  rintro ⟨j,G⟩ ⟨hj,sG,f2⟩ ih
  simp only at hj sG f2 ih
  refine lp_step hmix L32_2_g [1,3,5] L32_2.eq_1 ?_
  have gG := sG.2 _ _ g0
  have bG : ∀ L,(G ++ L)[h.length]? = some (some (.row (dayC v))) := fun L => getElem?_app_left gG
  rcases Nat.lt_or_ge j d.links.length with hjl | hjl
  · have i3 : (j : Int) < d.links.length := by omega
    obtain ⟨p,p1,p2K⟩ := hR0.toDayS.link hjl
    have p2 : ∀ L,rdn w0 (G ++ L) p 2 = some d.links[j].c := fun L => (sG.app (L := L)).rdn (by simpa using p2K [])
    have p2' := p2 []
    rw [List.append_nil] at p2'
    obtain ⟨g,eg⟩ : ∃ g,g = d.links[j] := ⟨_,rfl⟩
    rw [← eg] at p2 p2'
    have og : g.c.all one = true := rfl
    have eg2 : d.links.getD j ⟨0,0⟩ = g := by rw [getD_at hjl,eg]
    have sG2 : HSub K0 (G ++ [some (.row g.c)]) := sG.app
    simp only [go_sem,gG,bG,dayC,l2,i3,p1,p2,p2',LinkD.c,og]
    refine ⟨(by unfold I64; omega),?_⟩
    refine rvC_use (rin_c _ _ _).v ?_
    rw [hin]
    cases e1 : placeB d.places.length g.one with
    | false =>
      simp only [go_sem]
      exact ⟨s0.trans sG2,by rw [day_no fun s => by have := (s.lk j hjl).1.1; rw [eg2,e1] at this; cases this]⟩
    | true =>
    simp only [go_sem]
    refine ⟨(by unfold I64; omega),?_⟩
    refine rvC_use (rin_c _ _ _).v ?_
    rw [hin]
    cases e2 : placeB d.places.length g.other with
    | false =>
      simp only [go_sem]
      exact ⟨s0.trans sG2,by rw [day_no fun s => by have := (s.lk j hjl).1.2.1; rw [eg2,e2] at this; cases this]⟩
    | true =>
    by_cases e3 : g.one = g.other
    · simp only [go_sem,e3]
      exact ⟨s0.trans sG.app,by rw [day_no fun s => by have := (s.lk j hjl).1.2.2; rw [eg2] at this; exact this e3]⟩
    simp only [go_sem,e3]
    obtain ⟨b6,eb6⟩ : ∃ b,b = G.length := ⟨_,rfl⟩
    rw [← eb6]
    have g6 : (G ++ [some (.row g.c)])[b6]? = some (some (.row g.c)) := by rw [eb6]; simp
    refine lp_ind (S := Nat × Heap) (F := fun s => [(1,.ptr (.own h.length 0)),(3,.int .i64 (d.places.length : Int)),(5,.int .i64 j),(6,.ptr (.own b6 0)),(7,.int .i64 s.1)]) (H := fun s => s.2) (meas := fun s => j - s.1)
      (Inv := fun s => s.1 ≤ j ∧ HSub (G ++ [some (.row g.c)]) s.2 ∧ ∀ k,k < s.1 → linkSame (d.links.getD k ⟨0,0⟩) g = false) (0,G ++ [some (.row g.c)]) ⟨Nat.zero_le _,HSub.refl,fun k hk => absurd hk (by simp)⟩ rfl rfl ?_
    rintro ⟨k,H⟩ ⟨hk,sH,f3⟩ ih2
    simp only at hk sH f3 ih2
    refine lp_step hmix L32_1_g [1,3,5,6,7] L32_1.eq_1 ?_
    have sKH : HSub K0 H := sG2.trans sH
    have gH := sKH.2 _ _ g0
    have bH : ∀ L,(H ++ L)[h.length]? = some (some (.row (dayC v))) := fun L => getElem?_app_left gH
    have q6 := sH.2 _ _ g6
    have q6' : ∀ L,(H ++ L)[b6]? = some (some (.row g.c)) := fun L => getElem?_app_left q6
    rcases Nat.lt_or_ge k j with hkl | hkl
    · have i4 : (k : Int) < j := by omega
      have hkl2 : k < d.links.length := by omega
      obtain ⟨p',p1',p2K'⟩ := hR0.toDayS.link hkl2
      have u2 : ∀ L,rdn w0 (H ++ L) p' 2 = some d.links[k].c := fun L => (sKH.app (L := L)).rdn (by simpa using p2K' [])
      have u2' := u2 []
      rw [List.append_nil] at u2'
      obtain ⟨m,em⟩ : ∃ m,m = d.links[k] := ⟨_,rfl⟩
      rw [← em] at u2 u2'
      have om : m.c.all one = true := rfl
      have em2 : d.links.getD k ⟨0,0⟩ = m := by rw [getD_at hkl2,em]
      have hls : linkSame m g = ((decide (m.one = g.one) && decide (m.other = g.other)) || (decide (m.one = g.other) && decide (m.other = g.one))) := by
        rw [linkSame]; cases m; cases g; simp [LinkD.mk.injEq]
      have hno : linkSame m g = true → dayB d = false := fun e => day_no fun s => by
        have := (s.lk j hjl).2 k hkl
        rw [eg2,em2,e] at this; cases this
      have hyes : linkSame m g = false → lp Try.prog w0 none 273 (List.length h) (resK w0 [RV.t 2] fun v' h' => HSub h h' ∧ v' = AV.bool (dayB d)) L32_1 _ [(1,.ptr (.own h.length 0)),(3,.int .i64 (d.places.length : Int)),(5,.int .i64 j),(6,.ptr (.own b6 0)),(7,.int .i64 ((k : Int) + 1))] (H ++ [some (.row m.c)]) := fun e => by
        have := ih2 (k + 1,H ++ [some (.row m.c)]) ⟨by simp only; omega,sH.app,fun q hq => by
          simp only at hq
          rcases Nat.lt_or_ge q k with h1 | h1
          · exact f3 q h1
          · obtain rfl : q = k := by omega
            rw [em2]; exact e⟩ (by simp only; omega)
        simpa using this
      rw [hls] at hno hyes
      by_cases a1 : m.one = g.one
      · by_cases a2 : m.other = g.other
        · simp only [go_sem,gH,bH,dayC,i4,p1',u2,u2',LinkD.c,om,q6,q6',a1,a2]
          exact ⟨s0.trans sKH.app,by rw [hno (by simp [a1,a2])]⟩
        · by_cases a3 : g.one = g.other
          · exact absurd a3 e3
          · simp only [go_sem,gH,bH,dayC,i4,p1',u2,u2',LinkD.c,om,q6,q6',a1,a2,a3]
            exact ⟨(by unfold I64; omega),by have := hyes (by simp [a1,a2,a3]); simpa [LinkD.c,a1] using this⟩
      · by_cases a3 : m.one = g.other
        · by_cases a4 : m.other = g.one
          · simp only [go_sem,gH,bH,dayC,i4,p1',u2,u2',LinkD.c,om,q6,q6',a1,a3,a4]
            have hh : ∀ L,HSub h (H ++ L) := fun L => s0.trans sKH.app
            rw [hno (by simp [a3,a4])]
            exact ⟨fun _ => ⟨fun _ => ⟨hh _,rfl⟩,fun _ => ⟨hh _,rfl⟩⟩,fun _ => ⟨hh _,rfl⟩⟩
          · simp only [go_sem,gH,bH,dayC,i4,p1',u2,u2',LinkD.c,om,q6,q6',a1,a3,a4]
            exact ⟨fun e => absurd (a3.trans e) a1,fun _ => ⟨(by unfold I64; omega),by have := hyes (by simp [a1,a4]); simpa [LinkD.c,a3] using this⟩⟩
        · simp only [go_sem,gH,bH,dayC,i4,p1',u2,u2',LinkD.c,om,q6,q6',a1,a3]
          exact ⟨(by unfold I64; omega),by have := hyes (by simp [a1,a3]); simpa [LinkD.c] using this⟩
    · have i4 : ¬ (k : Int) < j := by omega
      obtain rfl : k = j := by omega
      simp only [go_sem,i4]
      have := ih (k + 1,H) ⟨by simp only; omega,sKH,fun q hq => by
        simp only at hq
        rcases Nat.lt_or_ge q k with h1 | h1
        · exact f2 q h1
        · obtain rfl : q = k := by omega
          rw [eg2]; exact ⟨⟨e1,e2,e3⟩,f3⟩⟩ (by simp only; omega)
      exact ⟨(by unfold I64; omega),by simpa using this⟩
  · have i3 : ¬ (j : Int) < d.links.length := by omega
    obtain rfl : j = d.links.length := by omega
    simp only [go_sem,gG,bG,dayC,l2,i3]
    clear ih gG bG
    refine lp_ind (S := Nat × Heap) (F := fun s => [(1,.ptr (.own h.length 0)),(3,.int .i64 (d.places.length : Int)),(9,.int .i64 s.1)]) (H := fun s => s.2) (meas := fun s => d.planes.length - s.1)
      (Inv := fun s => s.1 ≤ d.planes.length ∧ HSub K0 s.2 ∧ ∀ j,j < s.1 → planeB d.places.length (d.planes.getD j ⟨0,0,0,0,0⟩) = true)
      (0,G) ⟨Nat.zero_le _,sG,fun j hj => absurd hj (by simp)⟩ rfl rfl ?_
    clear sG
    rintro ⟨j,G⟩ ⟨hj,sG,f3⟩ ih
    simp only at hj sG f3 ih
    refine lp_step hmix L32_3_g [1,3,9] L32_3.eq_1 ?_
    have gG := sG.2 _ _ g0
    have bG : ∀ L,(G ++ L)[h.length]? = some (some (.row (dayC v))) := fun L => getElem?_app_left gG
    rcases Nat.lt_or_ge j d.planes.length with hjl | hjl
    · have i3 : (j : Int) < d.planes.length := by omega
      obtain ⟨p,p1,p2K⟩ := hR0.toDayS.plane hjl
      have p2 : ∀ L,rdn w0 (G ++ L) p 5 = some d.planes[j].c := fun L => (sG.app (L := L)).rdn (by simpa using p2K [])
      have p2' := p2 []
      rw [List.append_nil] at p2'
      obtain ⟨g,eg⟩ : ∃ g,g = d.planes[j] := ⟨_,rfl⟩
      rw [← eg] at p2 p2'
      have og : g.c.all one = true := rfl
      have eg2 : d.planes.getD j ⟨0,0,0,0,0⟩ = g := by rw [getD_at hjl,eg]
      have sG2 : HSub h (G ++ [some (.row g.c)]) := s0.trans sG.app
      have hno : planeB d.places.length g = false → dayB d = false := fun e => day_no fun s => by
        have := s.pn j hjl
        rw [eg2,e] at this; cases this
      simp only [go_sem,gG,bG,dayC,l3,i3,p1,p2,p2',PlaneD.c,og]
      refine ⟨(by unfold I64; omega),?_⟩
      refine rvC_use (rin_c _ _ _).v ?_
      rw [hin]
      cases e1 : placeB d.places.length g.at_ with
      | false =>
        simp only [go_sem]
        exact ⟨sG2,by rw [hno (by simp [planeB,e1])]⟩
      | true =>
      simp only [go_sem]
      refine ⟨(by unfold I64; omega),?_⟩
      refine rvC_use (rin_c _ _ _).v ?_
      rw [hin]
      cases e2 : placeB d.places.length g.home with
      | false =>
        simp only [go_sem]
        exact ⟨sG2,by rw [hno (by simp [planeB,e2])]⟩
      | true =>
      simp only [go_sem]
      refine rvC_use (rin_c _ _ _).v ?_
      cases e3 : inB g.seats 0 20 with
      | false =>
        simp only [go_sem]
        exact ⟨sG2,by rw [hno (by simp [planeB,e3])]⟩
      | true =>
      simp only [go_sem]
      refine rvC_use (rin_c _ _ _).v ?_
      cases e4 : inB g.duty 0 20 with
      | false =>
        simp only [go_sem]
        exact ⟨sG2,by rw [hno (by simp [planeB,e4])]⟩
      | true =>
      simp only [go_sem]
      refine rvC_use (rin_c _ _ _).v ?_
      cases e5 : inB g.away 0 1000000 with
      | false =>
        simp only [go_sem]
        exact ⟨sG2,by rw [hno (by simp [planeB,e5])]⟩
      | true =>
      simp only [go_sem]
      have := ih (j + 1,G ++ [some (.row g.c)]) ⟨by simp only; omega,sG.app,fun q hq => by
        simp only at hq
        rcases Nat.lt_or_ge q j with h1 | h1
        · exact f3 q h1
        · obtain rfl : q = j := by omega
          rw [eg2]; simp [planeB,e1,e2,e3,e4,e5]⟩ (by simp only; omega)
      exact ⟨(by unfold I64; omega),by simpa [PlaneD.c] using this⟩
    have i3 : ¬ (j : Int) < d.planes.length := by omega
    obtain rfl : j = d.planes.length := by omega
    simp only [go_sem,gG,bG,dayC,l3,i3]
    clear ih gG bG
    refine lp_ind (S := Nat × Heap) (F := fun s => [(1,.ptr (.own h.length 0)),(3,.int .i64 (d.places.length : Int)),(11,.int .i64 s.1)]) (H := fun s => s.2) (meas := fun s => d.people.length - s.1)
      (Inv := fun s => s.1 ≤ d.people.length ∧ HSub K0 s.2 ∧ ∀ j,j < s.1 → personB d.places.length (d.people.getD j ⟨0,0,0,0,0⟩) = true)
      (0,G) ⟨Nat.zero_le _,sG,fun j hj => absurd hj (by simp)⟩ rfl rfl ?_
    clear sG
    rintro ⟨j,G⟩ ⟨hj,sG,f4⟩ ih
    simp only at hj sG f4 ih
    refine lp_step hmix L32_4_g [1,3,11] L32_4.eq_1 ?_
    have gG := sG.2 _ _ g0
    have bG : ∀ L,(G ++ L)[h.length]? = some (some (.row (dayC v))) := fun L => getElem?_app_left gG
    rcases Nat.lt_or_ge j d.people.length with hjl | hjl
    · have i3 : (j : Int) < d.people.length := by omega
      obtain ⟨p,p1,p2K⟩ := hR0.toDayS.person hjl
      have p2 : ∀ L,rdn w0 (G ++ L) p 5 = some d.people[j].c := fun L => (sG.app (L := L)).rdn (by simpa using p2K [])
      have p2' := p2 []
      rw [List.append_nil] at p2'
      obtain ⟨g,eg⟩ : ∃ g,g = d.people[j] := ⟨_,rfl⟩
      rw [← eg] at p2 p2'
      have og : g.c.all one = true := rfl
      have eg2 : d.people.getD j ⟨0,0,0,0,0⟩ = g := by rw [getD_at hjl,eg]
      have sG2 : HSub h (G ++ [some (.row g.c)]) := s0.trans sG.app
      have hno : personB d.places.length g = false → dayB d = false := fun e => day_no fun s => by
        have := s.pe j hjl
        rw [eg2,e] at this; cases this
      simp only [go_sem,gG,bG,dayC,l4,i3,p1,p2,p2',PersonD.c,og]
      refine ⟨(by unfold I64; omega),?_⟩
      refine rvC_use (rin_c _ _ _).v ?_
      rw [hin]
      cases e1 : placeB d.places.length g.at_ with
      | false =>
        simp only [go_sem]
        exact ⟨sG2,by rw [hno (by simp [personB,e1])]⟩
      | true =>
      simp only [go_sem]
      refine ⟨(by unfold I64; omega),?_⟩
      refine rvC_use (rin_c _ _ _).v ?_
      rw [hin]
      cases e2 : placeB d.places.length g.to with
      | false =>
        simp only [go_sem]
        exact ⟨sG2,by rw [hno (by simp [personB,e2])]⟩
      | true =>
      simp only [go_sem]
      refine rvC_use (rin_c _ _ _).v ?_
      cases e3 : inB g.seats 1 20 with
      | false =>
        simp only [go_sem]
        exact ⟨sG2,by rw [hno (by simp [personB,e3])]⟩
      | true =>
      simp only [go_sem]
      refine rvC_use (rin_c _ _ _).v ?_
      cases e4 : inB g.strand 0 1000000 with
      | false =>
        simp only [go_sem]
        exact ⟨sG2,by rw [hno (by simp [personB,e4])]⟩
      | true =>
      simp only [go_sem]
      refine rvC_use (rin_c _ _ _).v ?_
      cases e5 : inB g.lodged 0 1000000 with
      | false =>
        simp only [go_sem]
        exact ⟨sG2,by rw [hno (by simp [personB,e5])]⟩
      | true =>
      simp only [go_sem]
      have := ih (j + 1,G ++ [some (.row g.c)]) ⟨by simp only; omega,sG.app,fun q hq => by
        simp only at hq
        rcases Nat.lt_or_ge q j with h1 | h1
        · exact f4 q h1
        · obtain rfl : q = j := by omega
          rw [eg2]; simp [personB,e1,e2,e3,e4,e5]⟩ (by simp only; omega)
      exact ⟨(by unfold I64; omega),by simpa [PersonD.c] using this⟩
    have i3 : ¬ (j : Int) < d.people.length := by omega
    obtain rfl : j = d.people.length := by omega
    simp only [go_sem,gG,bG,dayC,l4,i3]
    clear ih
    have hRG := hR0.sub sG
    refine lp_all (fun j => [(1,.ptr (.own h.length 0)),(3,.int .i64 (d.places.length : Int)),(13,.int .i64 j)]) (fun j => (weaD d j).length = slotsD d ∧ ∀ t,t < (weaD d j).length → bitB d.places.length ((weaD d j).getD t 0) = true) d.weathers.length rfl (fun j hj hall ih => ?_) (fun f5 => ?_)
    · refine lp_step hmix L32_6_g [1,3,13] L32_6.eq_1 ?_
      have i3 : (j : Int) < d.weathers.length := by omega
      obtain ⟨p,x,p1,p2,p3⟩ := hRG.weathers.at_ (j := j) hj
      rw [← weaD_at hj] at p3
      obtain ⟨lx,q,qi,qr⟩ := SlI.use p3
      have p2' := p2 []
      rw [List.append_nil] at p2'
      obtain ⟨pz,xz,z1,z2,z3⟩ := hRG.weathers.at_ (j := 0) hw0
      have lz := (SlI.use z3).1
      rw [head_at (x := []) hw0] at lz
      change _ = some (AV.int .i64 (slotsD d : Nat)) at lz
      have z2' := z2 []
      rw [List.append_nil] at z2'
      simp only [go_sem,gG,bG,dayC,l5,i3,p1,p2,p2',lx,z1,z2,z2',lz]
      refine ⟨fun e => ?_,fun e => ?_⟩
      · exact ⟨s0.trans sG,by rw [day_no fun s => by have := (s.we j hj).1; omega]⟩
      have e' : (weaD d j).length = slotsD d := by omega
      refine lp_all (fun t => [(1,.ptr (.own h.length 0)),(3,.int .i64 (d.places.length : Int)),(13,.int .i64 j),(14,.int .i64 t)]) (fun t => bitB d.places.length ((weaD d j).getD t 0) = true) (weaD d j).length rfl (fun t ht _ ih2 => ?_) (fun f6 => ?_)
      · refine lp_step hmix L32_5_g [1,3,13,14] L32_5.eq_1 ?_
        have i4 : (t : Int) < (weaD d j).length := by omega
        have r1 := qi t ht
        have r2 := qr t ht
        have r2' := r2 []
        rw [List.append_nil] at r2'
        have hs := bin_shl1 (n := d.places.length) (by omega)
        have hpw : (2 ^ d.places.length : Nat) ≤ 2 ^ 50 := Nat.pow_le_pow_right (by omega) n1
        have hp1 : 1 ≤ 2 ^ d.places.length := Nat.one_le_two_pow
        rw [getD_at ht] at ih2
        have hbit : inB ((weaD d j)[t]) 0 (((2 ^ d.places.length : Nat) : Int) - 1) = bitB d.places.length ((weaD d j)[t]) := rfl
        simp only [go_sem,gG,bG,dayC,p1,p2,p2',lx,i4,r1,r2,r2',hs]
        refine ⟨by unfold I64; omega,?_⟩
        refine rdC_q (rin_c _ _ _).v ?_
        rw [hbit]
        cases e3 : bitB d.places.length ((weaD d j)[t]) with
        | false =>
          simp only [go_sem]
          exact ⟨s0.trans sG,by rw [day_no fun s => by have := (s.we j hj).2 t ht; rw [getD_at ht,e3] at this; cases this]⟩
        | true =>
          simp only [go_sem]
          exact ⟨(by unfold I64; omega),ih2 e3⟩
      · refine lp_step hmix L32_5_g [1,3,13,14] L32_5.eq_1 ?_
        have i4 : ¬ ((weaD d j).length : Int) < (weaD d j).length := by omega
        simp only [go_sem,gG,bG,dayC,p1,p2,p2',lx,i4]
        exact ⟨(by unfold I64; omega),ih ⟨e',f6⟩⟩
    refine lp_step hmix L32_6_g [1,3,13] L32_6.eq_1 ?_
    have i3 : ¬ (d.weathers.length : Int) < d.weathers.length := by omega
    simp only [go_sem,gG,bG,dayC,l5,i3]
    refine dr_fp hmix [0,1,2,3,4,5,6] [o_ 267 (.load (.t 1) (some 5)),o_ 268 (.load (.t 1) (some 5)),.call (some 269) none (f_ 40) [(.t 268)]] [([(0,o_ 267 (.load (.t 1) (some 5)))],[o_ 270 (.fld (.t 269) 0 none),.call (some 271) none (f_ 85) [(.t 267),(.t 270)],o_ 272 (.un .not (.t 271)),o_ 2 (m_ 272)])] rfl rfl (by kernel_rfl) ?_
    simp only [go_sem,gG,bG,dayC,o1,o2,o3,o4,o5]
    refine rvC_post (ACall.vc (first := []) (args := [.agg (dayC v)]) (rbegin_c d v hRG)) ?_
    rintro y H ⟨sH,nv,rfl,hst⟩
    have gH := sH.2 _ _ gG
    have bH : ∀ L,(H ++ L)[h.length]? = some (some (.row (dayC v))) := fun L => getElem?_app_left gH
    simp only [go_sem,gH,bH,dayC,o1,o2,o3,o4,o5,stC]
    refine rvC_use (crowded_c d v (beginD d) nv.pl (hRG.sub sH).toDayS hst.planes.s n1 (by simp [beginD]; omega)).v ?_
    have hlast : dayB d = !(List.range d.places.length).any (crowdB d (beginD d)) := by
      cases e : (List.range d.places.length).any (crowdB d (beginD d)) with
      | true => exact day_no fun s => by have := s.cr; rw [e] at this; cases this
      | false => exact dayB_sp.2 ⟨by simp [inB]; omega,by omega,by omega,by omega,c5,c6,f1,f2,f3,f4,f5,e⟩
    rw [hlast]
    simp only [go_sem]
    exact (s0.trans sG).trans sH
end Go.Proofs.Ab
namespace Go.Proofs.Ab
open Go Go.Proofs
variable {w0 : World} {h : Heap}
attribute [local irreducible] ACall ACallV AYield DCall DCallV rvC rdC lp rg dr ex un rv rd'
theorem mem_alike {d : DayD} {w s : Nat} {x : Int} : x ∈ alikeD d w s ↔ ∃ i : Nat,i < d.weathers.length ∧ x = i ∧ looksB d i w s = true := by
  simp only [alikeD,List.mem_map,List.mem_filter,List.mem_range]
  constructor
  · rintro ⟨i,⟨h1,h2⟩,rfl⟩; exact ⟨i,h1,rfl,h2⟩
  · rintro ⟨i,h1,rfl,h2⟩; exact ⟨i,⟨h1,h2⟩,rfl⟩
theorem alike_has {d : DayD} {w s o : Nat} (ho : o < d.weathers.length) : ((alikeD d w s).any fun x => decide (x = (o : Int))) = looksB d o w s := by
  rw [Bool.eq_iff_iff,List.any_eq_true]
  constructor
  · rintro ⟨x,hx,e⟩
    obtain ⟨i,_,rfl,h3⟩ := mem_alike.1 hx
    have : i = o := by have : (i : Int) = o := by simpa using e
                       omega
    subst this; exact h3
  · intro e
    exact ⟨o,mem_alike.2 ⟨o,ho,rfl,e⟩,by simp⟩
theorem looks_refl {d : DayD} {w s : Nat} : looksB d w w s = true := by simp [looksB]
theorem looks_trans {d : DayD} {a b c s : Nat} (h1 : looksB d a b s = true) : looksB d a c s = looksB d b c s := by
  simp only [looksB,decide_eq_true_eq] at h1 ⊢
  rw [h1]
theorem alike_same {d : DayD} {w s o : Nat} (ho : o < d.weathers.length) : decide (alikeD d w s = alikeD d o s) = looksB d o w s := by
  rw [Bool.eq_iff_iff,decide_eq_true_iff]
  constructor
  · intro e
    have : (o : Int) ∈ alikeD d w s := by rw [e]; exact mem_alike.2 ⟨o,ho,rfl,looks_refl⟩
    obtain ⟨i,_,h2,h3⟩ := mem_alike.1 this
    have : o = i := by omega
    subst this; exact h3
  · intro e
    unfold alikeD
    refine congrArg _ (List.filter_congr fun i _ => ?_)
    rw [looks_comm (a := i) (b := w),looks_comm (a := i) (b := o)]
    exact (looks_trans e).symm
theorem alike_less {d : DayD} {w s : Nat} {x : Int} (hx : x ∈ alikeD d w (s + 1)) : x ∈ alikeD d w s := by
  obtain ⟨i,h1,h2,h3⟩ := mem_alike.1 hx
  refine mem_alike.2 ⟨i,h1,h2,?_⟩
  simp only [looksB,decide_eq_true_eq] at h3 ⊢
  have := congrArg (List.take (s + 1)) h3
  rwa [List.take_take,List.take_take,Nat.min_eq_left (by omega)] at this
theorem alike_len {d : DayD} {w s : Nat} : (alikeD d w s).length ≤ d.weathers.length := filtN_len
theorem HopAlikes_c (d : DayD) (v : DayV) (w o s : Int) (hS : DayS w0 h d v) (hl : d.weathers.length ≤ 9223372036854775807) : DCall Try.prog w0 11 [.agg (dayC v),.int .i64 w,.int .i64 o,.int .i64 s] h (.bool true) h := by
  refine DCall_forget trivial (ACall_sx hmix mf11_ok mf11_b mf11_g (Nat.le_of_ble_eq_true rfl) fun hb ha => ex_in ?_)
  obtain ⟨o1,o2,o3,o4,o5⟩ := hS.ones
  obtain ⟨l1,l2,l3,l4,l5⟩ := hS.lens
  obtain ⟨K0,eK0⟩ : ∃ K0 : Heap,K0 = h ++ [some (.row (dayC v))] := ⟨_,rfl⟩
  have s0 : HSub h K0 := eK0 ▸ HSub.refl.app
  have g0 : K0[h.length]? = some (some (.row (dayC v))) := by rw [eK0]; simp
  have b0 : ∀ L,(K0 ++ L)[h.length]? = some (some (.row (dayC v))) := fun L => getElem?_app_left g0
  simp only [go_sem,mf11,o1,o2,o3,o4,o5]
  rw [show h ++ [some (Blk.row [v.pl,v.ln,v.pn,v.pe,v.we])] = K0 by rw [eK0]; rfl]
  have hS0 := hS.sub s0
  refine rvC_use (short_c d v hS0 hl).v ?_
  cases e1 : shortB d with
  | false =>
    simp only [go_sem]
    refine rvC_use known_c.v ?_
    simp only [go_sem]
    exact s0
  | true =>
  have hR := hS.R e1
  have n5 := hR.l5
  simp only [go_sem,g0,b0,dayC,o1,o2,o3,o4,o5]
  refine rvC_post (ACall.vc (first := []) (args := [.agg (dayC v),.int .i64 w,.int .i64 s]) (Alike_c d v w s (hR.sub s0))) ?_
  rintro y H1 ⟨s1,hA⟩
  have t1 := s0.trans s1
  have g1 := s1.2 _ _ g0
  have b1 : ∀ L,(H1 ++ L)[h.length]? = some (some (.row (dayC v))) := fun L => getElem?_app_left g1
  have hR1 := hR.sub t1
  have hno : (dayB d && (inB w 0 ((d.weathers.length : Int) - 1) && inB s 0 ((slotsD d : Int) - 1))) = false → y = .tup [.nilS,.int .i64 2] := fun e => by rw [AlikeK,e] at hA; exact hA
  cases hB : dayB d with
  | false =>
    have := hno (by rw [hB]; rfl)
    subst this
    simp only [go_sem,g1,b1,dayC,o1,o2,o3,o4,o5]
    refine rvC_use (rday_c d v hR1).v ?_
    rw [hB]
    simp only [go_sem]
    refine rvC_use known_c.v ?_
    simp only [go_sem]
    exact t1
  | true =>
  have dg := dayB_G hB
  have hw0 : d.weathers ≠ [] := List.length_pos_iff.1 dg.w0
  by_cases y1 : w < 0
  · have := hno (by simp [inB]; omega)
    subst this
    simp only [go_sem,g1,b1,dayC,o1,o2,o3,o4,o5]
    refine rvC_use (rday_c d v hR1).v ?_
    rw [hB]
    simp only [go_sem,y1]
    refine rvC_use known_c.v ?_
    simp only [go_sem]
    exact t1
  by_cases y2 : (d.weathers.length : Int) ≤ w
  · have := hno (by simp [inB]; omega)
    subst this
    simp only [go_sem,g1,b1,dayC,o1,o2,o3,o4,o5]
    refine rvC_use (rday_c d v hR1).v ?_
    rw [hB]
    simp only [go_sem,y1,g1,b1,dayC,l5,y2]
    refine rvC_use known_c.v ?_
    simp only [go_sem]
    exact t1
  by_cases y3 : s < 0
  · have := hno (by simp [inB]; omega)
    subst this
    simp only [go_sem,g1,b1,dayC,o1,o2,o3,o4,o5]
    refine rvC_use (rday_c d v hR1).v ?_
    rw [hB]
    simp only [go_sem,y1,g1,b1,dayC,l5,y2,y3]
    refine rvC_use known_c.v ?_
    simp only [go_sem]
    exact t1
  by_cases y4 : (slotsD d : Int) ≤ s
  · have := hno (by simp [inB]; omega)
    subst this
    simp only [go_sem,g1,b1,dayC,o1,o2,o3,o4,o5]
    refine rvC_use (rday_c d v hR1).v ?_
    rw [hB]
    simp only [go_sem,y1,g1,b1,dayC,l5,y2,y3,o1,o2,o3,o4,o5]
    refine rvC_use (rslots_c d v hR1.toDayS hw0).v ?_
    simp only [go_sem,y4]
    refine rvC_use known_c.v ?_
    simp only [go_sem]
    exact t1
  rw [AlikeK,if_pos (by rw [hB]; simp [inB]; omega)] at hA
  obtain ⟨lv,rfl,hlv⟩ := hA
  obtain ⟨wn,rfl⟩ : ∃ n : Nat,w = n := ⟨w.toNat,by omega⟩
  obtain ⟨sn,rfl⟩ : ∃ n : Nat,s = n := ⟨s.toNat,by omega⟩
  simp only [Int.toNat_natCast] at hlv
  have hwl : wn < d.weathers.length := by omega
  have hsl : ∀ i,i < d.weathers.length → sn < (weaD d i).length := fun i hi => by
    rw [weaD_at hi,(dg.rows _ (List.getElem_mem hi)).1]; omega
  have hs1 := dg.s1
  have hal : ∀ a b,(alikeD d a b).length < 1000000 := fun a b => by have := alike_len (d := d) (w := a) (s := b); omega
  simp only [go_sem,g1,b1,dayC,o1,o2,o3,o4,o5]
  refine rvC_use (rday_c d v hR1).v ?_
  rw [hB]
  simp only [go_sem,y1,g1,b1,dayC,l5,y2,y3,o1,o2,o3,o4,o5]
  refine rvC_use (rslots_c d v hR1.toDayS hw0).v ?_
  simp only [go_sem,y4,g1,b1,dayC,o1,o2,o3,o4,o5]
  refine rvC_post (ACall.vc (first := []) (args := [.agg (dayC v),.int .i64 (wn : Int),.int .i64 (sn : Int)]) (ralike_c d v wn sn hR1 hwl hsl (by omega))) ?_
  rintro rv' H2 ⟨s2,hrv⟩
  have t2 := t1.trans s2
  have g2 := s2.2 _ _ g1
  have b2 : ∀ L,(H2 ++ L)[h.length]? = some (some (.row (dayC v))) := fun L => getElem?_app_left g2
  have hlv2 := Sl.sub hlv s2
  have hR2 := hR.sub t2
  simp only [go_sem]
  refine rvC_use (same_c (alikeD d wn sn) (alikeD d wn sn) lv rv' hlv2 hrv (hal _ _)).v ?_
  simp only [go_sem,decide_true]
  refine rvC_use (rhas_c (alikeD d wn sn) lv wn hlv2 (hal _ _)).v ?_
  rw [alike_has hwl,looks_refl]
  simp only [go_sem]
  by_cases z1 : o < 0
  · simp only [go_sem,z1]
    refine rvC_use known_c.v ?_
    simp only [go_sem]
    exact t2
  by_cases z2 : (d.weathers.length : Int) ≤ o
  · simp only [go_sem,z1,g2,b2,dayC,l5,z2]
    refine rvC_use known_c.v ?_
    simp only [go_sem]
    exact t2
  obtain ⟨on,rfl⟩ : ∃ n : Nat,o = n := ⟨o.toNat,by omega⟩
  have hol : on < d.weathers.length := by omega
  simp only [go_sem,z1,g2,b2,dayC,l5,z2,o1,o2,o3,o4,o5]
  refine rvC_post (ACall.vc (first := []) (args := [.agg (dayC v),.int .i64 (on : Int),.int .i64 (sn : Int)]) (Alike_c d v on sn hR2)) ?_
  rintro y H3 ⟨s3,hA⟩
  rw [AlikeK,if_pos (by rw [hB]; simp [inB]; omega)] at hA
  obtain ⟨mv,rfl,hmv⟩ := hA
  simp only [Int.toNat_natCast] at hmv
  have t3 := t2.trans s3
  have g3 := s3.2 _ _ g2
  have b3 : ∀ L,(H3 ++ L)[h.length]? = some (some (.row (dayC v))) := fun L => getElem?_app_left g3
  have hlv3 := Sl.sub hlv2 s3
  have hR3 := hR.sub t3
  simp only [go_sem]
  refine rvC_use (rhas_c (alikeD d wn sn) lv on hlv3 (hal _ _)).v ?_
  simp only [go_sem]
  refine rvC_use (same_c (alikeD d wn sn) (alikeD d on sn) lv mv hlv3 hmv (hal _ _)).v ?_
  rw [alike_has hol,alike_same hol]
  simp only [go_sem]
  refine ⟨fun e => ?_,fun e => ?_⟩
  · refine rvC_use known_c.v ?_
    simp only [go_sem]
    exact t3
  obtain ⟨k,rfl⟩ : ∃ k,sn = k + 1 := ⟨sn - 1,by omega⟩
  have ek : (((k + 1 : Nat) : Int) - 1) = (k : Int) := by omega
  simp only [go_sem,g3,b3,dayC,o1,o2,o3,o4,o5,ek]
  refine ⟨(by unfold I64; omega),?_⟩
  refine rvC_post (ACall.vc (first := []) (args := [.agg (dayC v),.int .i64 (wn : Int),.int .i64 (k : Int)]) (Alike_c d v wn k hR3)) ?_
  rintro y H4 ⟨s4,hA⟩
  rw [AlikeK,if_pos (by rw [hB]; simp [inB]; omega)] at hA
  obtain ⟨nv,rfl,hnv⟩ := hA
  simp only [Int.toNat_natCast] at hnv
  have t4 := t3.trans s4
  have hlv4 := Sl.sub hlv3 s4
  obtain ⟨ll,q,qi,qr⟩ := SlI.use hlv4
  simp only [go_sem]
  refine lp_all (fun j => [(9,lv),(13,nv),(14,.int .i64 0),(15,.int .i64 j)]) (fun _ => True) (alikeD d wn (k + 1)).length rfl (fun j hj _ ih => ?_) (fun _ => ?_)
  · refine lp_step hmix L11_0_g [9,13,14,15] L11_0.eq_1 ?_
    have i3 : (j : Int) < (alikeD d wn (k + 1)).length := by omega
    have r1 := qi j hj
    have r2 := qr j hj
    have r2' := r2 []
    rw [List.append_nil] at r2'
    have hm := alike_less (List.getElem_mem hj)
    have hlt := hal wn (k + 1)
    simp only [go_sem,ll,i3,r1,r2,r2']
    refine rvC_use (rhas_c (alikeD d wn k) nv _ hnv (hal _ _)).v ?_
    rw [List.any_eq_true.2 ⟨_,hm,by simp⟩]
    simp only [go_sem]
    exact ⟨(by unfold I64; omega),ih trivial⟩
  · refine lp_step hmix L11_0_g [9,13,14,15] L11_0.eq_1 ?_
    have x1 : ¬ ((alikeD d wn (k + 1)).length : Int) < (alikeD d wn (k + 1)).length := by omega
    simp only [go_sem,ll,x1]
    refine rvC_use known_c.v ?_
    simp only [go_sem]
    exact t4
end Go.Proofs.Ab

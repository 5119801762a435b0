/- The own layer under the proofs of this seat, part M: what calls of the program come to on an abstract heap. No condition. -/
import Derived.Test.YtiaaonmbgkealaaL
import Derived.Test.YtiaaonmbgkealaaG
set_option linter.unusedSimpArgs false
set_option linter.unusedVariables false
namespace Go.Proofs.Ab
open Go Go.Proofs
variable {w0 : World} {h : Heap}
attribute [local irreducible] ACall ACallV AYield DCall DCallV rvC rdC lp rg dr ex un rv rd'
theorem rin_c (x lo hi : Int) : DCall Try.prog w0 66 [.int .i64 x,.int .i64 lo,.int .i64 hi] h (.bool (inB x lo hi)) h := by
  refine DCall_quiet hmix mf66_ok mf66_b mf66_g (Nat.le_of_ble_eq_true rfl) (by simp [AV.bdd,AV.bdds]) fun hb ha => ex_in ?_
  simp only [go_sem,mf66]
  exact ⟨fun a => by simp [inB,a],fun a => by simp [inB,a]⟩
theorem rwithin_c (l : List Span) (v : AV) (t : Int) (hv : Sl w0 h 2 v (l.map Span.c)) (hn : l.length < 1000000) : DCall Try.prog w0 25 [v,.int .i64 t] h (.bool (within l t)) h := by
  refine DCall_quiet hmix mf25_ok mf25_b mf25_g (Nat.le_of_ble_eq_true rfl) (by simp [AV.bdd,AV.bdds]) fun hb ha => ex_in ?_
  obtain ⟨hlen,q,hix,hrow,_⟩ := hv.use
  simp only [List.length_map] at hlen hix
  simp only [go_sem,mf25]
  refine lp_all (fun j => [(0,v),(1,.int .i64 t),(5,.int .i64 j)]) (fun j => ∀ hj : j < l.length,inB t l[j].low l[j].high = false) l.length rfl (fun j hj hall ih => ?_) (fun hall => ?_)
  · refine lp_step hmix L25_0_g [0,1,5] L25_0.eq_1 ?_
    have e1 := hix j hj
    have e3 : (j : Int) < l.length := by omega
    have e2 : ∀ L,rdn w0 (h ++ L) (q.add (j * 2)) 2 = some l[j].c := fun L => rdn_app (hrow j _ (by simp [hj]))
    have t1 : ∀ L,rd w0 (h ++ L) ((q.add (j * 2)).add 0) = some (.int .i64 l[j].low) := fun L => rd_get (e2 L) rfl
    have t2 : ∀ L,rd w0 (h ++ L) ((q.add (j * 2)).add 1) = some (.int .i64 l[j].high) := fun L => rd_get (e2 L) rfl
    simp only [go_sem,hlen,e1,t1,t2,e3]
    refine rdC_q (rin_c _ _ _).v ?_
    simp only [go_sem]
    refine ⟨fun e => ?_,fun e => ⟨(by unfold I64; omega),ih fun _ => e⟩⟩
    have : within l t = true := by rw [within,List.any_eq_true]; exact ⟨_,List.getElem_mem hj,e⟩
    rw [this]
  · refine lp_step hmix L25_0_g [0,1,5] L25_0.eq_1 ?_
    have e3 : ¬ (l.length : Int) < l.length := by omega
    simp only [go_sem,hlen,e3]
    have : within l t = false := by
      rw [within,List.any_eq_false]; intro w hw
      obtain ⟨j,hj,rfl⟩ := List.getElem_of_mem hw
      simp [hall j hj hj]
    rw [this]
def nextD : List Span → Int → Int
  | [],_ => -1
  | s :: l,m => if m ≤ s.high then max m s.low else nextD l m
def rwindowsB (l : List Span) : Bool := (List.range l.length).all (winB l) && decide (l.length ≤ 10)
theorem rwindows_c (l : List Span) (v : AV) (hv : Sl w0 h 2 v (l.map Span.c)) (hn : l.length < 1000000) : DCall Try.prog w0 65 [v] h (.bool (rwindowsB l)) h := by
  refine DCall_quiet hmix mf65_ok mf65_b mf65_g (Nat.le_of_ble_eq_true rfl) (by simp [AV.bdd,AV.bdds]) fun hb ha => ex_in ?_
  obtain ⟨hlen,q,hix,hrow,_⟩ := hv.use
  simp only [List.length_map] at hlen hix
  simp only [go_sem,mf65]
  refine lp_all (fun j => [(0,v),(3,.int .i64 j)]) (fun j => winB l j = true) l.length rfl (fun j hj hall ih => ?_) (fun hall => ?_)
  · refine lp_step hmix L65_0_g [0,3] L65_0.eq_1 ?_
    have e1 := hix j hj
    have e3 : (j : Int) < l.length := by omega
    have e2 : ∀ L,rdn w0 (h ++ L) (q.add (j * 2)) 2 = some l[j].c := fun L => rdn_app (hrow j _ (by simp [hj]))
    have t1 : ∀ L,rd w0 (h ++ L) ((q.add (j * 2)).add 0) = some (.int .i64 l[j].low) := fun L => rd_get (e2 L) rfl
    have t2 : ∀ L,rd w0 (h ++ L) ((q.add (j * 2)).add 1) = some (.int .i64 l[j].high) := fun L => rd_get (e2 L) rfl
    simp only [go_sem,hlen,e1,t1,t2,e3]
    have hg : l.getD j ⟨0,0⟩ = l[j] := getD_at hj
    have no : winB l j = false → AV.bool false = AV.bool (rwindowsB l) := fun e => by
      have : (List.range l.length).all (winB l) = false := List.all_eq_false.2 ⟨j,List.mem_range.2 hj,by simp [e]⟩
      simp [rwindowsB,this]
    refine ⟨fun a1 => ⟨fun a2 => ⟨fun a3 => ⟨fun a4 => ?_,fun a4 => ⟨(by unfold I64; omega),ih ?_⟩⟩,fun a3 => no ?_⟩,fun a2 => no ?_⟩,fun a1 => no ?_⟩
    · obtain ⟨k,rfl⟩ : ∃ k,j = k + 1 := ⟨j - 1,by omega⟩
      have hk : k < l.length := by omega
      have g2 : l.getD k ⟨0,0⟩ = l[k] := getD_at hk
      have hp := hall k (by omega)
      simp only [winB,g2,spanB,Bool.and_eq_true,decide_eq_true_eq] at hp
      have d2 : asNat (.int .i64 (((k + 1 : Nat) : Int) - 1)) = some k := by rw [show ((k + 1 : Nat) : Int) - 1 = (k : Int) by omega]; exact asNat_n
      have d2' : (if 0 ≤ ((k + 1 : Nat) : Int) - 1 then some (((k + 1 : Nat) : Int) - 1).toNat else none) = some k := by rw [if_pos (by omega),show ((k + 1 : Nat) : Int) - 1 = (k : Int) by omega,Int.toNat_natCast]
      have i1 := hix k hk
      have r1 : ∀ L,rd w0 (h ++ L) ((q.add (k * 2)).add 1) = some (.int .i64 l[k].high) := fun L => rd_get (rdn_app (hrow k l[k].c (by simp [hk]))) rfl
      have hI : I64 (((k + 1 : Nat) : Int) - 1) := (by unfold I64; omega)
      rw [d2']
      simp only [go_sem,i1,r1,hI]
      have hz : (k + 1 == 0) = false := rfl
      refine ⟨(by unfold I64; omega),fun a5 => no ?_,fun a5 => ⟨(by unfold I64; omega),ih ?_⟩⟩
      · simp only [winB,hg,Nat.add_sub_cancel,g2,hz,Bool.false_or,spanB]
        simp; omega
      · simp only [winB,hg,Nat.add_sub_cancel,g2,hz,Bool.false_or,spanB]
        simp; omega
    · obtain rfl : j = 0 := by omega
      simp only [winB,hg,spanB]
      simp; omega
    · simp only [winB,hg,spanB,decide_eq_false (show ¬ l[j].high ≤ 1440 by omega)]; simp
    · simp only [winB,hg,spanB,decide_eq_false (show ¬ l[j].low ≤ l[j].high by omega)]; simp
    · simp only [winB,hg,spanB,decide_eq_false (show ¬ 0 ≤ l[j].low by omega)]; simp
  · refine lp_step hmix L65_0_g [0,3] L65_0.eq_1 ?_
    have e3 : ¬ (l.length : Int) < l.length := by omega
    have h5 : ((l.length : Int) ≤ 10) = (l.length ≤ 10) := by simp only [eq_iff_iff]; omega
    simp only [go_sem,hlen,e3,h5]
    have : (List.range l.length).all (winB l) = true := List.all_eq_true.2 fun x hx => hall x (List.mem_range.1 hx)
    simp [rwindowsB,this]
theorem rchain_c (c : ChainD) (v : ChainV) (hR : ChainR w0 h c v) : DCall Try.prog w0 19 [.agg (chainC v)] h (.bool (chainB c)) h := by
  refine DCall_quiet hmix mf19_ok mf19_b mf19_g (Nat.le_of_ble_eq_true rfl) (by simp [AV.bdd,AV.bdds]) fun hb ha => ex_in ?_
  have o1 := hR.stops.one.1
  have o2 := hR.legs.one.1
  have l1 := hR.stops.use.1
  rw [stopRows_len hR.toChainS] at l1
  have l2 := hR.legs.use.1
  simp only [List.length_map] at l2
  have hls := hR.ls
  have hll := hR.ll
  have st : ∀ s : StopD,(rwindowsB s.windows && inB s.turn 0 300) = stopB s := fun s => by
    simp only [rwindowsB,stopB,windowsB]
    cases (List.range s.windows.length).all (winB s.windows) <;> cases inB s.turn 0 300 <;> simp
  simp only [go_sem,mf19,o1,o2]
  refine lp_all (fun j => [(1,.ptr (.own h.length 0)),(3,.int .i64 j)]) (fun j => ∀ hj : j < c.stops.length,stopB c.stops[j] = true) c.stops.length rfl (fun j hj hi ih => ?_) (fun es => ?_)
  · refine lp_step hmix L19_0_g [1,3] L19_0.eq_1 ?_
    obtain ⟨p,x,p1,p2,p3⟩ := hR.stop (j := j) hj
    obtain ⟨s,es⟩ : ∃ s,c.stops[j] = s := ⟨_,rfl⟩
    rw [es] at p2 p3
    have hw := hR.lw s (es ▸ List.getElem_mem hj)
    have i3 : (j : Int) < c.stops.length := by omega
    have t1 : ∀ L,rd w0 (h ++ L) (p.add 0) = some x := fun L => rd_get (p2 L) rfl
    have t2 : ∀ L,rd w0 (h ++ L) (p.add 1) = some (.int .i64 s.turn) := fun L => rd_get (p2 L) rfl
    have no : stopB s = false → chainB c = false := fun e => by
      have : c.stops.all stopB = false := List.all_eq_false.2 ⟨_,List.getElem_mem hj,by rw [es]; simp [e]⟩
      simp [chainB,this]
    simp only [go_sem,l1,i3,p1,t1,t2]
    refine rvC_use (rwindows_c s.windows x p3.app hw).v ?_
    simp only [go_sem,p1,t1,t2]
    refine ⟨fun e1 => ?_,fun e1 => ?_⟩
    · refine rvC_use (rin_c _ _ _).v ?_
      simp only [go_sem]
      refine ⟨fun e2 => by rw [no (by rw [← st,e2,Bool.and_false])],fun e2 => ⟨(by unfold I64; omega),ih fun _ => by rw [es,← st,e1,e2]; rfl⟩⟩
    · rw [no (by rw [← st,e1]; rfl)]
  refine lp_step hmix L19_0_g [1,3] L19_0.eq_1 ?_
  have x1 : ¬ (c.stops.length : Int) < c.stops.length := by omega
  simp only [go_sem,l1,x1]
  have es : c.stops.all stopB = true := List.all_eq_true.2 fun x hx => by
    obtain ⟨i,hi,rfl⟩ := List.getElem_of_mem hx
    exact es i hi hi
  refine lp_all (fun j => [(1,.ptr (.own h.length 0)),(4,.int .i64 j)]) (fun j => ∀ hj : j < c.legs.length,legB c.legs[j] = true) c.legs.length rfl (fun j hj hi ih => ?_) (fun el => ?_)
  · refine lp_step hmix L19_1_g [1,4] L19_1.eq_1 ?_
    obtain ⟨p,p1,p2⟩ := hR.leg (j := j) hj
    obtain ⟨s,es⟩ : ∃ s,c.legs[j] = s := ⟨_,rfl⟩
    rw [es] at p2
    have i3 : (j : Int) < c.legs.length := by omega
    have t1 : ∀ L,rd w0 (h ++ L) (p.add 0) = some (.int .i64 s.low) := fun L => rd_get (p2 L) rfl
    have t2 : ∀ L,rd w0 (h ++ L) (p.add 1) = some (.int .i64 s.high) := fun L => rd_get (p2 L) rfl
    have no : legB s = false → chainB c = false := fun e => by
      have : c.legs.all legB = false := List.all_eq_false.2 ⟨_,List.getElem_mem hj,by rw [es]; simp [e]⟩
      simp [chainB,this]
    simp only [go_sem,l2,i3,p1,t1,t2]
    refine ⟨fun a1 => ⟨fun a2 => ⟨fun a3 => ?_,fun a3 => ⟨(by unfold I64; omega),ih fun _ => ?_⟩⟩,fun a2 => ?_⟩,fun a1 => ?_⟩
    rotate_left
    · rw [es]; simp [legB,spanB]; omega
    all_goals rw [no (by simp [legB,spanB]; omega)]
  refine lp_step hmix L19_1_g [1,4] L19_1.eq_1 ?_
  have x2 : ¬ (c.legs.length : Int) < c.legs.length := by omega
  simp only [go_sem,l1,l2,x2]
  have el : c.legs.all legB = true := List.all_eq_true.2 fun x hx => by
    obtain ⟨i,hi,rfl⟩ := List.getElem_of_mem hx
    exact el i hi hi
  refine rvC_use (rin_c _ _ _).v ?_
  simp only [go_sem,l1,l2]
  have hI : I64 ((c.stops.length : Int) - 1) := (by unfold I64; omega)
  refine ⟨fun e1 => ⟨hI,?_⟩,fun e1 => by simp [chainB,e1]⟩
  have : ((c.legs.length : Int) == (c.stops.length : Int) - 1) = decide ((c.legs.length : Int) = (c.stops.length : Int) - 1) := rfl
  simp [chainB,e1,es,el,this]
def briefB (c : ChainD) : Bool := c.stops.all (fun s => decide (s.windows.length ≤ 20)) && (decide (c.stops.length ≤ 20) && decide (c.legs.length ≤ 20))
theorem brief_c (c : ChainD) (v : ChainV) (hS : ChainS w0 h c v) (hl : c.stops.length ≤ 9223372036854775807) : DCall Try.prog w0 16 [.agg (chainC v)] h (.bool (briefB c)) h := by
  refine DCall_quiet hmix mf16_ok mf16_b mf16_g (Nat.le_of_ble_eq_true rfl) (by simp [AV.bdd,AV.bdds]) fun hb ha => ex_in ?_
  have o1 := hS.stops.one.1
  have o2 := hS.legs.one.1
  have l1 := hS.stops.use.1
  rw [stopRows_len hS] at l1
  have l2 := hS.legs.use.1
  simp only [List.length_map] at l2
  simp only [go_sem,mf16,o1,o2]
  refine lp_all (fun j => [(1,.ptr (.own h.length 0)),(3,.int .i64 j)]) (fun j => ∀ hj : j < c.stops.length,c.stops[j].windows.length ≤ 20) c.stops.length rfl (fun j hj hi ih => ?_) (fun es => ?_)
  · refine lp_step hmix L16_0_g [1,3] L16_0.eq_1 ?_
    obtain ⟨p,x,p1,p2,p3⟩ := hS.stop (j := j) hj
    have i3 : (j : Int) < c.stops.length := by omega
    have t1 : ∀ L,rd w0 (h ++ L) (p.add 0) = some x := fun L => rd_get (p2 L) rfl
    have l3 := p3.use.1
    simp only [List.length_map] at l3
    simp only [go_sem,l1,i3,p1,t1,l3]
    refine ⟨fun e => ?_,fun e => ⟨(by unfold I64; omega),ih fun _ => by omega⟩⟩
    have : c.stops.all (fun s => decide (s.windows.length ≤ 20)) = false := List.all_eq_false.2 ⟨_,List.getElem_mem hj,by simp; omega⟩
    simp [briefB,this]
  refine lp_step hmix L16_0_g [1,3] L16_0.eq_1 ?_
  have x1 : ¬ (c.stops.length : Int) < c.stops.length := by omega
  simp only [go_sem,l1,l2,x1]
  have es : c.stops.all (fun s => decide (s.windows.length ≤ 20)) = true := List.all_eq_true.2 fun x hx => by
    obtain ⟨i,hi,rfl⟩ := List.getElem_of_mem hx
    simpa using es i hi hi
  have h5 : ((c.legs.length : Int) ≤ 20) = (c.legs.length ≤ 20) := by simp only [eq_iff_iff]; omega
  refine ⟨fun e1 => ?_,fun e1 => ?_⟩
  · simp [briefB,es,h5,show c.stops.length ≤ 20 by omega]
  · simp [briefB,show ¬ c.stops.length ≤ 20 by omega]
theorem ChainS.R {c : ChainD} {v : ChainV} (s : ChainS w0 h c v) (hb : briefB c = true) : ChainR w0 h c v := by
  simp only [briefB,Bool.and_eq_true,decide_eq_true_eq,List.all_eq_true] at hb
  exact ⟨s,by omega,by omega,fun x hx => by have := hb.1 x hx; omega⟩
end Go.Proofs.Ab
namespace Go.Proofs.Ab
open Go Go.Proofs
variable {w0 : World} {h : Heap}
attribute [local irreducible] ACall ACallV AYield DCall DCallV rvC rdC lp rg dr ex un rv rd'
end Go.Proofs.Ab
namespace Go.Proofs.Ab
open Go Go.Proofs
variable {w0 : World} {h : Heap}
attribute [local irreducible] ACall ACallV AYield DCall DCallV rvC rdC lp rg dr ex un rv rd'
theorem Gro.base {g H : Heap} {es n : Nat} {ov : AV} {vs : List AV} (a : Gro g H es n ov vs) (s : HSub h g) : Gro h H es n ov vs := by
  refine ⟨s.trans a.sub,?_⟩
  rcases a.own with h1 | ⟨io,h1,h2⟩
  · exact .inl h1
  · exact .inr ⟨io,Nat.le_trans s.1 h1,h2⟩
end Go.Proofs.Ab
namespace Go.Proofs.Ab
open Go Go.Proofs
theorem nextD_snoc {l : List Span} {s : Span} {m : Int} (hl : ∀ x ∈ l,0 ≤ x.low) (hm : 0 ≤ m) : nextD (l ++ [s]) m = if nextD l m < 0 then (if m ≤ s.high then max m s.low else -1) else nextD l m := by
  induction l with
  | nil => simp [nextD]
  | cons a l ih =>
    have hi := ih fun x hx => hl x (List.mem_cons_of_mem _ hx)
    by_cases h : m ≤ a.high
    · have := hl a List.mem_cons_self
      have h5 : ¬ max m a.low < 0 := by omega
      simp only [List.cons_append,nextD,h,if_true,h5,if_false]
    · simp only [List.cons_append,nextD,h,if_false,hi]
theorem idxOf_snoc {p : Nat → Bool} {k : Nat} : idxOf p (List.range (k + 1)) = if idxOf p (List.range k) < 0 then (if p k then (k : Int) else -1) else idxOf p (List.range k) := by
  unfold idxOf
  rw [List.range_succ,List.findIdx?_append]
  cases e : (List.range k).findIdx? p with
  | none =>
    simp only [Option.none_or,List.findIdx?_cons,List.findIdx?_nil,List.length_range]
    cases hp : p k <;> simp
  | some i => simp; omega
structure SpI (r : Nat → Bool) (k : Nat) (out : List Span) : Prop where
  bd : ∀ s ∈ out,0 ≤ s.low ∧ s.low ≤ s.high ∧ s.high < k
  nx : ∀ m : Int,0 ≤ m → nextD out m = idxOf (fun (t : Nat) => decide (m ≤ (t : Int)) && r t) (List.range k)
  wi : ∀ m : Nat,within out m = (decide (m < k) && r m)
theorem SpI.nil {r : Nat → Bool} : SpI r 0 [] := ⟨by simp,fun m _ => rfl,fun m => by simp [within]⟩
theorem SpI.no {r : Nat → Bool} {k : Nat} {out : List Span} (a : SpI r k out) (h : r k = false) : SpI r (k + 1) out := by
  refine ⟨fun s hs => by have := a.bd s hs; omega,fun m hm => ?_,fun m => ?_⟩
  · rw [a.nx m hm,idxOf_snoc,h]
    simp only [Bool.and_false,Bool.false_eq_true,if_false]
    split
    · rename_i h1; unfold idxOf at h1 ⊢; split at h1
      · omega
      · rfl
    · rfl
  · rw [a.wi]
    by_cases hm : m = k
    · subst hm; simp [h]
    · have : decide (m < k) = decide (m < k + 1) := by rw [decide_eq_decide]; omega
      rw [this]
theorem within_snoc {l : List Span} {s : Span} {m : Int} : within (l ++ [s]) m = (within l m || inB m s.low s.high) := by simp [within]
theorem SpI.yes {r : Nat → Bool} {k : Nat} {out : List Span} (a : SpI r k out) (h : r k = true) : SpI r (k + 1) (addT out k) := by
  have hp : ∀ m : Int,(decide (m ≤ (k : Int)) && r k) = decide (m ≤ (k : Int)) := fun m => by rw [h,Bool.and_true]
  have hnew : (∀ init s,out = init ++ [s] → s.high ≠ (k : Int) - 1) → SpI r (k + 1) (out ++ [⟨k,k⟩]) := fun _ => by
    refine ⟨fun s hs => ?_,fun m hm => ?_,fun m => ?_⟩
    · rcases List.mem_append.1 hs with h1 | h1
      · have := a.bd s h1; omega
      · simp only [List.mem_singleton] at h1; subst h1; simp; omega
    · rw [nextD_snoc (fun x hx => (a.bd x hx).1) hm,a.nx m hm,idxOf_snoc,hp]
      simp only [decide_eq_true_eq]
      split
      · split
        · omega
        · rfl
      · rfl
    · rw [within_snoc,a.wi]
      simp only [inB]
      by_cases hm : m = k
      · subst hm; simp [h]
      · have e1 : decide (m < k) = decide (m < k + 1) := by rw [decide_eq_decide]; omega
        have e2 : (decide ((k : Int) ≤ (m : Int)) && decide ((m : Int) ≤ (k : Int))) = false := by
          rcases Nat.lt_or_ge m k with h1 | h1
          · rw [decide_eq_false (by omega)]; rfl
          · rw [decide_eq_false (show ¬ (m : Int) ≤ (k : Int) by omega),Bool.and_false]
        rw [e1,e2,Bool.or_false]
  rcases List.eq_nil_or_concat out with rfl | ⟨init,s,rfl⟩
  · exact hnew fun init s e => by simp at e
  · rw [List.concat_eq_append] at *
    by_cases hs : s.high = (k : Int) - 1
    · have e : addT (init ++ [s]) k = init ++ [⟨s.low,k⟩] := by simp [addT,hs]
      rw [e]
      have hb := a.bd s (by simp)
      have hi : ∀ x ∈ init,0 ≤ x.low := fun x hx => (a.bd x (by simp [hx])).1
      refine ⟨fun x hx => ?_,fun m hm => ?_,fun m => ?_⟩
      · rcases List.mem_append.1 hx with h1 | h1
        · have := a.bd x (by simp [h1]); omega
        · simp only [List.mem_singleton] at h1; subst h1; simp; omega
      · have o := a.nx m hm
        rw [nextD_snoc hi hm] at o ⊢
        rw [idxOf_snoc,hp,← o]
        simp only [decide_eq_true_eq]
        by_cases h1 : nextD init m < 0
        · by_cases h3 : m ≤ s.high
          · have h4 : m ≤ (k : Int) := by omega
            have h5 : ¬ max m s.low < 0 := by omega
            simp only [h1,h3,h4,h5,if_true,if_false]
          · have h5 : (-1 : Int) < 0 := by omega
            by_cases h4 : m ≤ (k : Int)
            · simp only [h1,h3,h4,h5,if_true,if_false]; omega
            · simp only [h1,h3,h4,h5,if_true,if_false]
        · simp only [h1,if_false]
      · have o := a.wi m
        rw [within_snoc] at o ⊢
        simp only [inB] at o ⊢
        by_cases hm : m = k
        · subst hm
          rw [decide_eq_true (show s.low ≤ (m : Int) by omega),decide_eq_true (Int.le_refl _),decide_eq_true (by omega),h]; simp
        · have e1 : decide (m < k + 1) = decide (m < k) := by rw [decide_eq_decide]; omega
          have e2 : decide ((m : Int) ≤ (k : Int)) = decide ((m : Int) ≤ s.high) := by rw [decide_eq_decide]; omega
          rw [e1,e2]; exact o
    · have e : addT (init ++ [s]) k = init ++ [s] ++ [⟨k,k⟩] := by simp [addT,hs]
      rw [e]
      exact hnew fun init' s' e' => by
        have := List.append_inj_right' e' rfl
        simp only [List.cons.injEq,and_true] at this
        subst this; exact hs
theorem SpI.all {r : Nat → Bool} : ∀ k,k ≤ 1441 → SpI r k (spL 0 [] ((rowB r).take k)) := by
  intro k hk
  induction k with
  | zero => exact SpI.nil
  | succ k ih =>
    have i := ih (by omega)
    have hl : (rowB r)[k]? = some (r k) := by rw [rowB,List.getElem?_map,List.getElem?_range (by omega)]; rfl
    rw [List.take_add_one,hl,Option.toList,spL_snoc,List.length_take,Nat.zero_add,Nat.min_eq_left (by simp [rowB]; omega)]
    cases e : r k with
    | true => rw [if_pos rfl]; exact i.yes e
    | false => exact i.no e
theorem spans_I (r : Nat → Bool) : SpI r 1441 (spansD (rowB r)) := by
  have := SpI.all (r := r) 1441 (Nat.le_refl _)
  rwa [List.take_of_length_le (by simp [rowB])] at this
theorem within_spans {r : Nat → Bool} {m : Nat} : within (spansD (rowB r)) m = (decide (m < 1441) && r m) := (spans_I r).wi m
end Go.Proofs.Ab
namespace Go.Proofs.Ab
open Go Go.Proofs
variable {w0 : World} {h : Heap}
attribute [local irreducible] ACall ACallV AYield DCall DCallV rvC rdC lp rg dr ex un rv rd'
def OwnSp (io : Nat) (G : Heap) (y : AV) (l : List Span) : Prop := (y = .nilS ∧ l = []) ∨ ∃ k,k ≠ io ∧ y = .sl (.own k 0) l.length 2 false ∧ G[k]? = some (some (.row (flatS l)))
theorem OwnSp.sl {io : Nat} {G : Heap} {y : AV} {l : List Span} (a : OwnSp io G y l) : Sl w0 G 2 y (l.map Span.c) := by
  rcases a with ⟨rfl,rfl⟩ | ⟨k,_,rfl,h2⟩
  · exact .inl ⟨rfl,rfl⟩
  · have := Sl_own (w0 := w0) (H := G) (full := false) (io := k) (rows := l.map Span.c) (es := 2) h2 (sp_len _)
    rwa [List.length_map] at this
theorem OwnSp.sub {io : Nat} {G H : Heap} {y : AV} {l : List Span} (a : OwnSp io G y l) (s : HSub G H) : OwnSp io H y l := by
  rcases a with h1 | ⟨k,h0,h1,h2⟩
  · exact .inl h1
  · exact .inr ⟨k,h0,h1,s.2 _ _ h2⟩
theorem OwnSp.set {io : Nat} {G : Heap} {y : AV} {l : List Span} {x : Option Blk} (a : OwnSp io G y l) : OwnSp io (G.set io x) y l := by
  rcases a with h1 | ⟨k,h0,h1,h2⟩
  · exact .inl h1
  · exact .inr ⟨k,h0,h1,by rw [List.getElem?_set_ne (Ne.symm h0)]; exact h2⟩
theorem spansD_len {r : Nat → Bool} : (spansD (rowB r)).length < 1000000 := by
  have h1 : ∀ k,k ≤ 1441 → (spL 0 [] ((rowB r).take k)).length ≤ k := by
    intro k hk
    induction k with
    | zero => simp [spL]
    | succ k ih =>
      have i := ih (by omega)
      have hl : (rowB r)[k]? = some (r k) := by rw [rowB,List.getElem?_map,List.getElem?_range (by omega)]; rfl
      rw [List.take_add_one,hl,Option.toList,spL_snoc]
      split
      · exact Nat.le_trans addT_len (by omega)
      · omega
  have h2 := h1 1441 (Nat.le_refl _)
  rw [List.take_of_length_le (by simp [rowB])] at h2
  exact Nat.lt_of_le_of_lt h2 (by decide)
end Go.Proofs.Ab
namespace Go.Proofs.Ab
open Go Go.Proofs
variable {w : World} {h : Heap} {cs : List Value}
def spanRw : Rw := .int (.int .nil)
def stopRw : Rw := .sl spanRw (.int .nil)
def chainRw : Rw := .sl stopRw (.sl spanRw .nil)
theorem span_of (g : Gd w spanRw cs) : ∃ s : Span,cs.map inj = s.c ∧ I64 s.low ∧ I64 s.high := by
  obtain ⟨a,_,rfl,h1,b,_,rfl,h2,rfl⟩ := g
  exact ⟨⟨a,b⟩,rfl,h1,h2⟩
theorem zip_stops (l : List (AV × StopD)) : stopRows (l.map Prod.fst) (l.map Prod.snd) = l.map fun x => stopC x.1 x.2 := by
  induction l with
  | nil => rfl
  | cons a l ih => simp only [stopRows,List.map_cons,List.zipWith_cons_cons] at ih ⊢; rw [ih]
theorem chain_of (g : Gd w chainRw cs) : ∃ (c : ChainD) (v : ChainV),cs.map inj = chainC v ∧ ChainS w h c v ∧ c.stops.length ≤ 9223372036854775807 := by
  obtain ⟨v0,_,rfl,g0,v1,_,rfl,g1,rfl⟩ := g
  obtain ⟨rows,h1,h2,h3⟩ := rows_of (h := h) g0
  obtain ⟨l,rfl,hl⟩ := rows_map (f := fun x : AV × StopD => stopC x.1 x.2) (p := fun x => Sl w h 2 x.1 (x.2.windows.map Span.c)) (rows := rows) fun c hc => by
    obtain ⟨cs,rfl,u,_,rfl,g2,n,_,rfl,_,rfl⟩ := h3 c hc
    obtain ⟨q,hq,_⟩ := slice_of (h := h) Span.c rfl g2 fun _ g => by
      obtain ⟨a,x,_⟩ := span_of g
      exact ⟨a,x⟩
    exact ⟨(inj u,⟨q,n⟩),rfl,hq⟩
  obtain ⟨l1,s1,_⟩ := slice_of (h := h) Span.c rfl g1 fun _ g => by
    obtain ⟨a,x,_⟩ := span_of g
    exact ⟨a,x⟩
  refine ⟨⟨l.map Prod.snd,l1⟩,⟨inj v0,inj v1,l.map Prod.fst⟩,rfl,⟨by simp,?_,?_,s1⟩,by simpa using h2⟩
  · rw [zip_stops]; exact h1
  · intro j x s hx hs
    simp only [List.getElem?_map,Option.map_eq_some_iff] at hx hs
    obtain ⟨a,a1,rfl⟩ := hx
    obtain ⟨b,b1,rfl⟩ := hs
    rw [a1] at b1; cases b1
    exact hl _ (List.mem_of_getElem? a1)
theorem int_of {v : Value} (g : Gd w (.int .nil) [v]) : ∃ n : Int,inj v = .int .i64 n ∧ I64 n := by
  obtain ⟨n,_,e,h,rfl⟩ := g
  cases e; exact ⟨n,rfl,h⟩
theorem list_of {v : Value} (g : Gd w (.sl (.int .nil) .nil) [v]) : ∃ l : List Int,SlI w h (inj v) l ∧ l.length ≤ 9223372036854775807 := by
  obtain ⟨_,_,e,h,rfl⟩ := g
  cases e; exact ints_of h
end Go.Proofs.Ab
namespace Go.Proofs.Ab
open Go Go.Proofs
variable {w0 : World} {h : Heap}
attribute [local irreducible] ACall ACallV AYield DCall DCallV rvC rdC lp rg dr ex un rv rd'
end Go.Proofs.Ab
namespace Go.Proofs.Ab
open Go Go.Proofs
variable {w0 : World} {h : Heap}
attribute [local irreducible] ACall ACallV AYield DCall DCallV rvC rdC lp rg dr ex un rv rd'
theorem departD_at {c : ChainD} {i : Nat} (hi : i < c.legs.length) : ∀ (h : i < (departD c).length),(departD c)[i] = spansD (rowB (goodT c i)) := fun h => departD_get h
end Go.Proofs.Ab
namespace Go.Proofs.Ab
open Go Go.Proofs
end Go.Proofs.Ab
namespace Go.Proofs.Ab
open Go Go.Proofs
variable {w0 : World} {h : Heap}
attribute [local irreducible] ACall ACallV AYield DCall DCallV rvC rdC lp rg dr ex un rv rd'
theorem within_le {l : List Span} {m : Int} (hw : windowsB l = true) (h : within l m = true) : 0 ≤ m ∧ m ≤ 1440 := by
  rw [within,List.any_eq_true] at h
  obtain ⟨s,hs,h⟩ := h
  obtain ⟨j,hj,rfl⟩ := List.getElem_of_mem hs
  have := (all_range_iff.1 hw) j hj
  simp only [winB,getD_at hj,spanB,Bool.and_eq_true,decide_eq_true_eq] at this
  simp only [inB,Bool.and_eq_true,decide_eq_true_eq] at h
  omega
theorem firstBad_at {go : Int → Bool} {m : Int} : ∀ {n : Nat} {d : Int},¬ firstBad go m n d < 0 → d ≤ firstBad go m n d ∧ firstBad go m n d < d + n ∧ go (m + firstBad go m n d) = false
  | 0,d,h => by simp [firstBad] at h
  | n + 1,d,h => by
    rw [firstBad] at h ⊢
    by_cases e : go (m + d) = true
    · rw [if_pos e] at h ⊢
      obtain ⟨h1,h2,h3⟩ := firstBad_at h
      exact ⟨by omega,by omega,h3⟩
    · rw [if_neg e] at h ⊢
      exact ⟨by omega,by omega,by simpa using e⟩
theorem fromD_none {r : Nat → Bool} {m : Int} (h : fromD r m < 0) : ∀ t : Nat,t < 1441 → m ≤ t → r t = false := by
  intro t ht hm
  have h1 := idxOf_ge (fun (t : Nat) => decide (m ≤ (t : Int)) && r t) (List.range 1441)
  have h2 : decide (0 ≤ idxOf (fun (t : Nat) => decide (m ≤ (t : Int)) && r t) (List.range 1441)) = false := decide_eq_false (by unfold fromD at h; omega)
  rw [h2] at h1
  have := List.any_eq_false.1 h1.symm t (List.mem_range.2 ht)
  rw [decide_eq_true hm,Bool.true_and] at this
  simpa using this
theorem bad_next {c : ChainD} {i t : Nat} (hB : chainB c = true) (hi : i < c.legs.length) (hg : goodT c i t = false) (hw : within (stopD c i).windows t = true) :
    (legD c i).low ≤ missD c i t ∧ missD c i t ≤ (legD c i).high ∧ (within (stopD c (i + 1)).windows (t + missD c i t) = true → i + 1 < c.legs.length ∧ ∀ u : Nat,u < 1441 → t + missD c i t + (stopD c (i + 1)).turn ≤ u → goodT c (i + 1) u = false) := by
  rw [goodT_eq hi,hw,Bool.true_and,decide_eq_false_iff_not] at hg
  have hm : missD c i t = failsD c i (goodT c (i + 1)) t := by rw [missD,if_pos hw]
  rw [hm]
  rw [failsD] at hg ⊢
  obtain ⟨h1,h2,h3⟩ := firstBad_at hg
  have bs := chainB_spec hB
  have hl : (legD c i).low ≤ (legD c i).high := by rw [legD,getD_at hi]; exact (bs.2.2.2.2 _ (List.getElem_mem hi)).2.1
  generalize firstBad (goesD c i (goodT c (i + 1))) (t : Int) ((legD c i).high - (legD c i).low + 1).toNat (legD c i).low = D at h1 h2 h3 ⊢
  refine ⟨h1,by omega,fun hw2 => ?_⟩
  unfold goesD at h3
  rw [Bool.and_eq_false_iff] at h3
  rcases h3 with h3 | h3
  · exfalso
    change within (stopD c (i + 1)).windows _ = false at h3
    rw [hw2] at h3; cases h3
  · rw [Bool.or_eq_false_iff,decide_eq_false_iff_not,decide_eq_false_iff_not] at h3
    exact ⟨by omega,fromD_none (by exact Int.not_le.1 h3.2)⟩
theorem HopFails_c (c : ChainD) (v : ChainV) (m : Int) (waits : List Int) (wv : AV) (hS : ChainS w0 h c v) (hl : c.stops.length ≤ 9223372036854775807) (hwv : SlI w0 h wv waits) : DCall Try.prog w0 6 [.agg (chainC v),.int .i64 m,wv] h (.bool true) h := by
  refine DCall_forget trivial (ACall_sx hmix mf6_ok mf6_b mf6_g (Nat.le_of_ble_eq_true rfl) fun hb ha => ex_in ?_)
  have o1 := hS.stops.one.1
  have o2 := hS.legs.one.1
  have l3 := (SlI.use hwv).1
  have l1 := hS.stops.use.1
  rw [stopRows_len hS] at l1
  have l2 := hS.legs.use.1
  simp only [List.length_map] at l2
  obtain ⟨H0,eH0⟩ : ∃ H0 : Heap,H0 = h ++ [some (.row [v.sv,v.lv])] := ⟨_,rfl⟩
  have s0 : HSub h H0 := eH0 ▸ HSub.refl.app
  have g0 : H0[h.length]? = some (some (.row [v.sv,v.lv])) := by rw [eH0]; simp
  have b0 : ∀ L,(H0 ++ L)[h.length]? = some (some (.row [v.sv,v.lv])) := fun L => getElem?_app_left g0
  simp only [go_sem,mf6,o1,o2]
  rw [← eH0]
  have hS0 : ChainS w0 H0 c v := hS.sub s0
  refine rvC_use (brief_c c v hS0 hl).v ?_
  cases e1 : briefB c with
  | false =>
    simp only [go_sem]
    refine rvC_use known_c.v ?_
    simp only [go_sem]
    exact s0
  | true =>
  have hR := hS.R e1
  have hR0 := hR.sub s0
  simp only [go_sem,g0,b0,o1,o2]
  refine rvC_use (rchain_c c v hR0).v ?_
  cases hB : chainB c with
  | false =>
    simp only [go_sem]
    refine rvC_use known_c.v ?_
    simp only [go_sem]
    exact s0
  | true =>
  by_cases y1 : m < 0
  · simp only [go_sem,y1]
    refine rvC_use known_c.v ?_
    simp only [go_sem]
    exact s0
  by_cases y2 : 1440 < m
  · simp only [go_sem,y1,y2]
    refine rvC_use known_c.v ?_
    simp only [go_sem]
    exact s0
  have bs := chainB_spec hB
  have hmb : 0 ≤ m ∧ m ≤ 1440 := by omega
  have hmi : inB m 0 1440 = true := by simp [inB]; omega
  simp only [go_sem,y1,y2,g0,b0,o1,o2,l3,l1]
  refine ⟨fun e3 => ?_,fun e3 => ?_⟩
  · refine rvC_use known_c.v ?_
    simp only [go_sem]
    exact s0
  refine rvC_post (ACall.vc (first := []) (args := [.agg (chainC v)]) (Depart_c c v hR0)) ?_
  rintro y H1 ⟨s1,hD⟩
  rw [if_pos hB] at hD
  obtain ⟨gv,rfl,hg⟩ := hD
  have t1 := s0.trans s1
  have g1 := s1.2 _ _ g0
  have b1 : ∀ L,(H1 ++ L)[h.length]? = some (some (.row [v.sv,v.lv])) := fun L => getElem?_app_left g1
  have hR1 := hR.sub t1
  have ln : lenV gv = some (.int .i64 (c.legs.length : Int)) := by rw [← departD_len (c := c)]; exact NS.len hg
  obtain ⟨p0,x0,i0,r0,q0⟩ := hg.at_ (j := 0) (by rw [departD_len]; omega)
  rw [departD_at (by omega)] at q0
  have r0' := r0 []
  rw [List.append_nil] at r0'
  simp only [go_sem,g1,b1,o1,o2,ln,l2,i0,r0,r0']
  refine rvC_use (rwithin_c (spansD (rowB (goodT c 0))) x0 m q0 spansD_len).v ?_
  have wd : within (spansD (rowB (goodT c 0))) m = goodT c 0 m.toNat := by
    obtain ⟨k,rfl⟩ : ∃ k : Nat,m = k := ⟨m.toNat,by omega⟩
    rw [within_spans,decide_eq_true (by omega)]; simp
  rw [wd]
  cases e6 : goodT c 0 m.toNat with
  | true =>
    simp only [go_sem,g1,b1,o1,o2]
    refine rvC_post (ACall.vc (first := []) (args := [.agg (chainC v),.int .i64 0,.int .i64 m]) (Miss_c c v 0 m hR1)) ?_
    rintro y H2 ⟨s2,hM⟩
    rw [if_pos (by rw [hB,hmi]; simp [inB]; omega),if_pos (by exact e6)] at hM
    subst hM
    simp only [go_sem]
    refine rvC_use known_c.v ?_
    simp only [go_sem]
    exact t1.trans s2
  | false =>
  simp only [go_sem]
  refine lp_ind (S := Nat × Int × Heap) (F := fun s => [(1,.int .i64 s.2.1),(2,wv),(3,.ptr (.own h.length 0)),(11,.int .i64 s.1)]) (H := fun s => s.2.2) (meas := fun s => c.legs.length - s.1)
    (Inv := fun s => s.1 < c.legs.length ∧ 0 ≤ s.2.1 ∧ s.2.1 ≤ 1000000 ∧ HSub H1 s.2.2 ∧ (s.2.1 ≤ 1440 → goodT c s.1 s.2.1.toNat = false)) (0,m,H1) ⟨by simp only; omega,hmb.1,by simp only; omega,HSub.refl,fun _ => e6⟩ rfl rfl ?_
  rintro ⟨j,mm,G⟩ ⟨hj,h0,h1,sG,hng⟩ ih
  simp only at hj h0 h1 sG hng ih
  refine lp_step hmix L6_0_g [1,2,3,11] L6_0.eq_1 ?_
  have f0 : (j : Int) < c.legs.length := by omega
  have tG := t1.trans sG
  have hRG := hR.sub tG
  have gG := sG.2 _ _ g1
  have bG : ∀ L,(G ++ L)[h.length]? = some (some (.row [v.sv,v.lv])) := fun L => getElem?_app_left gG
  obtain ⟨pa,xa,pa1,pa2,pa3⟩ := hRG.stop (j := j) (by omega)
  obtain ⟨sa,esa⟩ : ∃ s,c.stops[j]'(by omega) = s := ⟨_,rfl⟩
  rw [esa] at pa2 pa3
  have gsa : stopD c j = sa := by rw [stopD,getD_at (by omega),esa]
  have hsa := bs.2.2.2.1 sa (esa ▸ List.getElem_mem (by omega))
  have ta : ∀ L,rd w0 (G ++ L) (pa.add 0) = some xa := fun L => rd_get (pa2 L) rfl
  have ta' := ta []
  rw [List.append_nil] at ta'
  simp only [go_sem,gG,bG,l2,f0,pa1,ta,ta']
  refine rvC_use (rwithin_c sa.windows xa mm pa3 (by omega)).v ?_
  cases e7 : within sa.windows mm with
  | false =>
    simp only [go_sem]
    refine rvC_use known_c.v ?_
    simp only [go_sem]
    exact tG
  | true =>
  have hmm := within_le hsa.2.2.2 e7
  obtain ⟨t,rfl⟩ : ∃ t : Nat,mm = t := ⟨mm.toNat,by omega⟩
  have hng := hng hmm.2
  rw [Int.toNat_natCast] at hng
  obtain ⟨z1,z2,z3⟩ := bad_next hB hj hng (by rw [gsa]; exact e7)
  simp only [go_sem,gG,bG,o1,o2]
  refine rvC_post (ACall.vc (first := []) (args := [.agg (chainC v),.int .i64 j,.int .i64 t]) (Miss_c c v j t hRG)) ?_
  rintro y H2 ⟨s2,hM⟩
  rw [if_pos (by rw [hB]; simp [inB]; omega),if_neg (by rw [Int.toNat_natCast,Int.toNat_natCast,hng]; simp),Int.toNat_natCast] at hM
  subst hM
  have tH := tG.trans s2
  have g2 := s2.2 _ _ gG
  have b2 : ∀ L,(H2 ++ L)[h.length]? = some (some (.row [v.sv,v.lv])) := fun L => getElem?_app_left g2
  have hR2 := hR.sub tH
  obtain ⟨d,ed⟩ : ∃ d,d = missD c j t := ⟨_,rfl⟩
  rw [← ed] at z1 z2 z3 ⊢
  obtain ⟨gl,gl1,gl2⟩ := hR2.leg (j := j) hj
  obtain ⟨g,eg⟩ : ∃ g,c.legs[j] = g := ⟨_,rfl⟩
  rw [eg] at gl2
  have gg : legD c j = g := by rw [legD,getD_at hj,eg]
  have hgb := bs.2.2.2.2 g (eg ▸ List.getElem_mem hj)
  rw [gg] at z1 z2
  have u1 : ∀ L,rd w0 (H2 ++ L) (gl.add 0) = some (.int .i64 g.low) := fun L => rd_get (gl2 L) rfl
  have u2 : ∀ L,rd w0 (H2 ++ L) (gl.add 1) = some (.int .i64 g.high) := fun L => rd_get (gl2 L) rfl
  have u1' := u1 []
  have u2' := u2 []
  obtain ⟨pb,xb,pb1,pb2,pb3⟩ := hR2.stop (j := j + 1) (by omega)
  obtain ⟨sb,esb⟩ : ∃ s,c.stops[j + 1]'(by omega) = s := ⟨_,rfl⟩
  rw [esb] at pb2 pb3
  have gsb : stopD c (j + 1) = sb := by rw [stopD,getD_at (by omega),esb]
  have hsb := bs.2.2.2.1 sb (esb ▸ List.getElem_mem (by omega))
  rw [gsb] at z3
  have tb : ∀ L,rd w0 (H2 ++ L) (pb.add 0) = some xb := fun L => rd_get (pb2 L) rfl
  have tb1 : ∀ L,rd w0 (H2 ++ L) (pb.add 1) = some (.int .i64 sb.turn) := fun L => rd_get (pb2 L) rfl
  have tb' := tb []
  have tb1' := tb1 []
  rw [List.append_nil] at u1' u2' tb' tb1'
  have d3' : (if 0 ≤ (j : Int) + 1 then some ((j : Int) + 1).toNat else none) = some (j + 1) := by rw [if_pos (by omega)]; congr 1
  have I3 : I64 ((j : Int) + 1) := (by unfold I64; omega)
  have I4 : I64 ((t : Int) + d) := (by unfold I64; omega)
  have n1 : ¬ d < g.low := by omega
  have n2 : ¬ g.high < d := by omega
  simp only [go_sem,g2,b2,gl1,u1,u2,u1',u2',n1,n2,I3,I4,d3',pb1,tb,tb']
  refine rvC_use (rwithin_c sb.windows xb ((t : Int) + d) pb3 (by omega)).v ?_
  cases e8 : within sb.windows ((t : Int) + d) with
  | false =>
    simp only [go_sem]
    refine rvC_use known_c.v ?_
    simp only [go_sem]
    exact tH
  | true =>
  obtain ⟨z4,z5⟩ := z3 e8
  have hwl : j + 1 < waits.length := by omega
  obtain ⟨_,qw,iw,rw_⟩ := SlI.use (Sl.sub hwv tH)
  have iw' := iw (j + 1) hwl
  have rw1 := rw_ (j + 1) hwl
  have rw1' := rw1 []
  rw [List.append_nil] at rw1'
  obtain ⟨wt,ewt⟩ : ∃ wt,wt = waits[j + 1] := ⟨_,rfl⟩
  rw [← ewt] at rw1 rw1'
  by_cases w1 : wt < 0
  · simp only [go_sem,I3,d3',iw',rw1,rw1',w1]
    refine rvC_use known_c.v ?_
    simp only [go_sem]
    exact tH
  by_cases w2 : 1440 < wt
  · simp only [go_sem,I3,d3',iw',rw1,rw1',w1,w2]
    refine rvC_use known_c.v ?_
    simp only [go_sem]
    exact tH
  have I5 : I64 ((t : Int) + d + sb.turn) := (by unfold I64; omega)
  have I6 : I64 ((t : Int) + d + sb.turn + wt) := (by unfold I64; omega)
  simp only [go_sem,I3,d3',iw',rw1,rw1',w1,w2,g2,b2,I4,pb1,tb1,tb1',I5,I6]
  have := ih (j + 1,(t : Int) + d + sb.turn + wt,H2) ⟨by simp only; omega,by simp only; omega,by simp only; omega,sG.trans s2,fun hle => by
    simp only at hle ⊢
    refine z5 _ ?_ ?_
    · omega
    · omega⟩ (by simp only; omega)
  simpa using this
end Go.Proofs.Ab

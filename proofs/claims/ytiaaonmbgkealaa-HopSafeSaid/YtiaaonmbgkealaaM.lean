/- The own layer under the proofs of this seat, part M: what calls of the program come to on an abstract heap. No condition. -/
import Derived.Test.YtiaaonmbgkealaaL
import Derived.Test.YtiaaonmbgkealaaG
set_option linter.unusedSimpArgs false
set_option linter.unusedVariables false
namespace Go.Proofs.Ab
open Go Go.Proofs
variable {w0 : World} {h : Heap}
attribute [local irreducible] ACall ACallV AYield DCall DCallV rvC rdC lp rg dr ex un rv rd'
theorem rin_c (x lo hi : Int) : DCall Try.prog w0 66 [.int .i64 x,.int .i64 lo,.int .i64 hi] h (.bool (inB x lo hi)) h := by
  refine DCall_quiet hmix mf66_ok mf66_b mf66_g (Nat.le_of_ble_eq_true rfl) (by simp [AV.bdd,AV.bdds]) fun hb ha => ex_in ?_
  simp only [go_sem,mf66]
  exact ⟨fun a => by simp [inB,a],fun a => by simp [inB,a]⟩
theorem rwithin_c (l : List Span) (v : AV) (t : Int) (hv : Sl w0 h 2 v (l.map Span.c)) (hn : l.length < 1000000) : DCall Try.prog w0 25 [v,.int .i64 t] h (.bool (within l t)) h := by
  refine DCall_quiet hmix mf25_ok mf25_b mf25_g (Nat.le_of_ble_eq_true rfl) (by simp [AV.bdd,AV.bdds]) fun hb ha => ex_in ?_
  obtain ⟨hlen,q,hix,hrow,_⟩ := hv.use
  simp only [List.length_map] at hlen hix
  simp only [go_sem,mf25]
  refine lp_all (fun j => [(0,v),(1,.int .i64 t),(5,.int .i64 j)]) (fun j => ∀ hj : j < l.length,inB t l[j].low l[j].high = false) l.length rfl (fun j hj hall ih => ?_) (fun hall => ?_)
  · refine lp_step hmix L25_0_g [0,1,5] L25_0.eq_1 ?_
    have e1 := hix j hj
    have e3 : (j : Int) < l.length := by omega
    have e2 : ∀ L,rdn w0 (h ++ L) (q.add (j * 2)) 2 = some l[j].c := fun L => rdn_app (hrow j _ (by simp [hj]))
    have t1 : ∀ L,rd w0 (h ++ L) ((q.add (j * 2)).add 0) = some (.int .i64 l[j].low) := fun L => rd_get (e2 L) rfl
    have t2 : ∀ L,rd w0 (h ++ L) ((q.add (j * 2)).add 1) = some (.int .i64 l[j].high) := fun L => rd_get (e2 L) rfl
    simp only [go_sem,hlen,e1,t1,t2,e3]
    refine rdC_q (rin_c _ _ _).v ?_
    simp only [go_sem]
    refine ⟨fun e => ?_,fun e => ⟨(by unfold I64; omega),ih fun _ => e⟩⟩
    have : within l t = true := by rw [within,List.any_eq_true]; exact ⟨_,List.getElem_mem hj,e⟩
    rw [this]
  · refine lp_step hmix L25_0_g [0,1,5] L25_0.eq_1 ?_
    have e3 : ¬ (l.length : Int) < l.length := by omega
    simp only [go_sem,hlen,e3]
    have : within l t = false := by
      rw [within,List.any_eq_false]; intro w hw
      obtain ⟨j,hj,rfl⟩ := List.getElem_of_mem hw
      simp [hall j hj hj]
    rw [this]
def nextD : List Span → Int → Int
  | [],_ => -1
  | s :: l,m => if m ≤ s.high then max m s.low else nextD l m
def rwindowsB (l : List Span) : Bool := (List.range l.length).all (winB l) && decide (l.length ≤ 10)
theorem rwindows_c (l : List Span) (v : AV) (hv : Sl w0 h 2 v (l.map Span.c)) (hn : l.length < 1000000) : DCall Try.prog w0 65 [v] h (.bool (rwindowsB l)) h := by
  refine DCall_quiet hmix mf65_ok mf65_b mf65_g (Nat.le_of_ble_eq_true rfl) (by simp [AV.bdd,AV.bdds]) fun hb ha => ex_in ?_
  obtain ⟨hlen,q,hix,hrow,_⟩ := hv.use
  simp only [List.length_map] at hlen hix
  simp only [go_sem,mf65]
  refine lp_all (fun j => [(0,v),(3,.int .i64 j)]) (fun j => winB l j = true) l.length rfl (fun j hj hall ih => ?_) (fun hall => ?_)
  · refine lp_step hmix L65_0_g [0,3] L65_0.eq_1 ?_
    have e1 := hix j hj
    have e3 : (j : Int) < l.length := by omega
    have e2 : ∀ L,rdn w0 (h ++ L) (q.add (j * 2)) 2 = some l[j].c := fun L => rdn_app (hrow j _ (by simp [hj]))
    have t1 : ∀ L,rd w0 (h ++ L) ((q.add (j * 2)).add 0) = some (.int .i64 l[j].low) := fun L => rd_get (e2 L) rfl
    have t2 : ∀ L,rd w0 (h ++ L) ((q.add (j * 2)).add 1) = some (.int .i64 l[j].high) := fun L => rd_get (e2 L) rfl
    simp only [go_sem,hlen,e1,t1,t2,e3]
    have hg : l.getD j ⟨0,0⟩ = l[j] := getD_at hj
    have no : winB l j = false → AV.bool false = AV.bool (rwindowsB l) := fun e => by
      have : (List.range l.length).all (winB l) = false := List.all_eq_false.2 ⟨j,List.mem_range.2 hj,by simp [e]⟩
      simp [rwindowsB,this]
    refine ⟨fun a1 => ⟨fun a2 => ⟨fun a3 => ⟨fun a4 => ?_,fun a4 => ⟨(by unfold I64; omega),ih ?_⟩⟩,fun a3 => no ?_⟩,fun a2 => no ?_⟩,fun a1 => no ?_⟩
    · obtain ⟨k,rfl⟩ : ∃ k,j = k + 1 := ⟨j - 1,by omega⟩
      have hk : k < l.length := by omega
      have g2 : l.getD k ⟨0,0⟩ = l[k] := getD_at hk
      have hp := hall k (by omega)
      simp only [winB,g2,spanB,Bool.and_eq_true,decide_eq_true_eq] at hp
      have d2 : asNat (.int .i64 (((k + 1 : Nat) : Int) - 1)) = some k := by rw [show ((k + 1 : Nat) : Int) - 1 = (k : Int) by omega]; exact asNat_n
      have d2' : (if 0 ≤ ((k + 1 : Nat) : Int) - 1 then some (((k + 1 : Nat) : Int) - 1).toNat else none) = some k := by rw [if_pos (by omega),show ((k + 1 : Nat) : Int) - 1 = (k : Int) by omega,Int.toNat_natCast]
      have i1 := hix k hk
      have r1 : ∀ L,rd w0 (h ++ L) ((q.add (k * 2)).add 1) = some (.int .i64 l[k].high) := fun L => rd_get (rdn_app (hrow k l[k].c (by simp [hk]))) rfl
      have hI : I64 (((k + 1 : Nat) : Int) - 1) := (by unfold I64; omega)
      rw [d2']
      simp only [go_sem,i1,r1,hI]
      have hz : (k + 1 == 0) = false := rfl
      refine ⟨(by unfold I64; omega),fun a5 => no ?_,fun a5 => ⟨(by unfold I64; omega),ih ?_⟩⟩
      · simp only [winB,hg,Nat.add_sub_cancel,g2,hz,Bool.false_or,spanB]
        simp; omega
      · simp only [winB,hg,Nat.add_sub_cancel,g2,hz,Bool.false_or,spanB]
        simp; omega
    · obtain rfl : j = 0 := by omega
      simp only [winB,hg,spanB]
      simp; omega
    · simp only [winB,hg,spanB,decide_eq_false (show ¬ l[j].high ≤ 1440 by omega)]; simp
    · simp only [winB,hg,spanB,decide_eq_false (show ¬ l[j].low ≤ l[j].high by omega)]; simp
    · simp only [winB,hg,spanB,decide_eq_false (show ¬ 0 ≤ l[j].low by omega)]; simp
  · refine lp_step hmix L65_0_g [0,3] L65_0.eq_1 ?_
    have e3 : ¬ (l.length : Int) < l.length := by omega
    have h5 : ((l.length : Int) ≤ 10) = (l.length ≤ 10) := by simp only [eq_iff_iff]; omega
    simp only [go_sem,hlen,e3,h5]
    have : (List.range l.length).all (winB l) = true := List.all_eq_true.2 fun x hx => hall x (List.mem_range.1 hx)
    simp [rwindowsB,this]
theorem rchain_c (c : ChainD) (v : ChainV) (hR : ChainR w0 h c v) : DCall Try.prog w0 19 [.agg (chainC v)] h (.bool (chainB c)) h := by
  refine DCall_quiet hmix mf19_ok mf19_b mf19_g (Nat.le_of_ble_eq_true rfl) (by simp [AV.bdd,AV.bdds]) fun hb ha => ex_in ?_
  have o1 := hR.stops.one.1
  have o2 := hR.legs.one.1
  have l1 := hR.stops.use.1
  rw [stopRows_len hR.toChainS] at l1
  have l2 := hR.legs.use.1
  simp only [List.length_map] at l2
  have hls := hR.ls
  have hll := hR.ll
  have st : ∀ s : StopD,(rwindowsB s.windows && inB s.turn 0 300) = stopB s := fun s => by
    simp only [rwindowsB,stopB,windowsB]
    cases (List.range s.windows.length).all (winB s.windows) <;> cases inB s.turn 0 300 <;> simp
  simp only [go_sem,mf19,o1,o2]
  refine lp_all (fun j => [(1,.ptr (.own h.length 0)),(3,.int .i64 j)]) (fun j => ∀ hj : j < c.stops.length,stopB c.stops[j] = true) c.stops.length rfl (fun j hj hi ih => ?_) (fun es => ?_)
  · refine lp_step hmix L19_0_g [1,3] L19_0.eq_1 ?_
    obtain ⟨p,x,p1,p2,p3⟩ := hR.stop (j := j) hj
    obtain ⟨s,es⟩ : ∃ s,c.stops[j] = s := ⟨_,rfl⟩
    rw [es] at p2 p3
    have hw := hR.lw s (es ▸ List.getElem_mem hj)
    have i3 : (j : Int) < c.stops.length := by omega
    have t1 : ∀ L,rd w0 (h ++ L) (p.add 0) = some x := fun L => rd_get (p2 L) rfl
    have t2 : ∀ L,rd w0 (h ++ L) (p.add 1) = some (.int .i64 s.turn) := fun L => rd_get (p2 L) rfl
    have no : stopB s = false → chainB c = false := fun e => by
      have : c.stops.all stopB = false := List.all_eq_false.2 ⟨_,List.getElem_mem hj,by rw [es]; simp [e]⟩
      simp [chainB,this]
    simp only [go_sem,l1,i3,p1,t1,t2]
    refine rvC_use (rwindows_c s.windows x p3.app hw).v ?_
    simp only [go_sem,p1,t1,t2]
    refine ⟨fun e1 => ?_,fun e1 => ?_⟩
    · refine rvC_use (rin_c _ _ _).v ?_
      simp only [go_sem]
      refine ⟨fun e2 => by rw [no (by rw [← st,e2,Bool.and_false])],fun e2 => ⟨(by unfold I64; omega),ih fun _ => by rw [es,← st,e1,e2]; rfl⟩⟩
    · rw [no (by rw [← st,e1]; rfl)]
  refine lp_step hmix L19_0_g [1,3] L19_0.eq_1 ?_
  have x1 : ¬ (c.stops.length : Int) < c.stops.length := by omega
  simp only [go_sem,l1,x1]
  have es : c.stops.all stopB = true := List.all_eq_true.2 fun x hx => by
    obtain ⟨i,hi,rfl⟩ := List.getElem_of_mem hx
    exact es i hi hi
  refine lp_all (fun j => [(1,.ptr (.own h.length 0)),(4,.int .i64 j)]) (fun j => ∀ hj : j < c.legs.length,legB c.legs[j] = true) c.legs.length rfl (fun j hj hi ih => ?_) (fun el => ?_)
  · refine lp_step hmix L19_1_g [1,4] L19_1.eq_1 ?_
    obtain ⟨p,p1,p2⟩ := hR.leg (j := j) hj
    obtain ⟨s,es⟩ : ∃ s,c.legs[j] = s := ⟨_,rfl⟩
    rw [es] at p2
    have i3 : (j : Int) < c.legs.length := by omega
    have t1 : ∀ L,rd w0 (h ++ L) (p.add 0) = some (.int .i64 s.low) := fun L => rd_get (p2 L) rfl
    have t2 : ∀ L,rd w0 (h ++ L) (p.add 1) = some (.int .i64 s.high) := fun L => rd_get (p2 L) rfl
    have no : legB s = false → chainB c = false := fun e => by
      have : c.legs.all legB = false := List.all_eq_false.2 ⟨_,List.getElem_mem hj,by rw [es]; simp [e]⟩
      simp [chainB,this]
    simp only [go_sem,l2,i3,p1,t1,t2]
    refine ⟨fun a1 => ⟨fun a2 => ⟨fun a3 => ?_,fun a3 => ⟨(by unfold I64; omega),ih fun _ => ?_⟩⟩,fun a2 => ?_⟩,fun a1 => ?_⟩
    rotate_left
    · rw [es]; simp [legB,spanB]; omega
    all_goals rw [no (by simp [legB,spanB]; omega)]
  refine lp_step hmix L19_1_g [1,4] L19_1.eq_1 ?_
  have x2 : ¬ (c.legs.length : Int) < c.legs.length := by omega
  simp only [go_sem,l1,l2,x2]
  have el : c.legs.all legB = true := List.all_eq_true.2 fun x hx => by
    obtain ⟨i,hi,rfl⟩ := List.getElem_of_mem hx
    exact el i hi hi
  refine rvC_use (rin_c _ _ _).v ?_
  simp only [go_sem,l1,l2]
  have hI : I64 ((c.stops.length : Int) - 1) := (by unfold I64; omega)
  refine ⟨fun e1 => ⟨hI,?_⟩,fun e1 => by simp [chainB,e1]⟩
  have : ((c.legs.length : Int) == (c.stops.length : Int) - 1) = decide ((c.legs.length : Int) = (c.stops.length : Int) - 1) := rfl
  simp [chainB,e1,es,el,this]
def briefB (c : ChainD) : Bool := c.stops.all (fun s => decide (s.windows.length ≤ 20)) && (decide (c.stops.length ≤ 20) && decide (c.legs.length ≤ 20))
theorem brief_c (c : ChainD) (v : ChainV) (hS : ChainS w0 h c v) (hl : c.stops.length ≤ 9223372036854775807) : DCall Try.prog w0 16 [.agg (chainC v)] h (.bool (briefB c)) h := by
  refine DCall_quiet hmix mf16_ok mf16_b mf16_g (Nat.le_of_ble_eq_true rfl) (by simp [AV.bdd,AV.bdds]) fun hb ha => ex_in ?_
  have o1 := hS.stops.one.1
  have o2 := hS.legs.one.1
  have l1 := hS.stops.use.1
  rw [stopRows_len hS] at l1
  have l2 := hS.legs.use.1
  simp only [List.length_map] at l2
  simp only [go_sem,mf16,o1,o2]
  refine lp_all (fun j => [(1,.ptr (.own h.length 0)),(3,.int .i64 j)]) (fun j => ∀ hj : j < c.stops.length,c.stops[j].windows.length ≤ 20) c.stops.length rfl (fun j hj hi ih => ?_) (fun es => ?_)
  · refine lp_step hmix L16_0_g [1,3] L16_0.eq_1 ?_
    obtain ⟨p,x,p1,p2,p3⟩ := hS.stop (j := j) hj
    have i3 : (j : Int) < c.stops.length := by omega
    have t1 : ∀ L,rd w0 (h ++ L) (p.add 0) = some x := fun L => rd_get (p2 L) rfl
    have l3 := p3.use.1
    simp only [List.length_map] at l3
    simp only [go_sem,l1,i3,p1,t1,l3]
    refine ⟨fun e => ?_,fun e => ⟨(by unfold I64; omega),ih fun _ => by omega⟩⟩
    have : c.stops.all (fun s => decide (s.windows.length ≤ 20)) = false := List.all_eq_false.2 ⟨_,List.getElem_mem hj,by simp; omega⟩
    simp [briefB,this]
  refine lp_step hmix L16_0_g [1,3] L16_0.eq_1 ?_
  have x1 : ¬ (c.stops.length : Int) < c.stops.length := by omega
  simp only [go_sem,l1,l2,x1]
  have es : c.stops.all (fun s => decide (s.windows.length ≤ 20)) = true := List.all_eq_true.2 fun x hx => by
    obtain ⟨i,hi,rfl⟩ := List.getElem_of_mem hx
    simpa using es i hi hi
  have h5 : ((c.legs.length : Int) ≤ 20) = (c.legs.length ≤ 20) := by simp only [eq_iff_iff]; omega
  refine ⟨fun e1 => ?_,fun e1 => ?_⟩
  · simp [briefB,es,h5,show c.stops.length ≤ 20 by omega]
  · simp [briefB,show ¬ c.stops.length ≤ 20 by omega]
theorem ChainS.R {c : ChainD} {v : ChainV} (s : ChainS w0 h c v) (hb : briefB c = true) : ChainR w0 h c v := by
  simp only [briefB,Bool.and_eq_true,decide_eq_true_eq,List.all_eq_true] at hb
  exact ⟨s,by omega,by omega,fun x hx => by have := hb.1 x hx; omega⟩
end Go.Proofs.Ab
namespace Go.Proofs.Ab
open Go Go.Proofs
variable {w0 : World} {h : Heap}
attribute [local irreducible] ACall ACallV AYield DCall DCallV rvC rdC lp rg dr ex un rv rd'
end Go.Proofs.Ab
namespace Go.Proofs.Ab
open Go Go.Proofs
variable {w0 : World} {h : Heap}
attribute [local irreducible] ACall ACallV AYield DCall DCallV rvC rdC lp rg dr ex un rv rd'
theorem Gro.base {g H : Heap} {es n : Nat} {ov : AV} {vs : List AV} (a : Gro g H es n ov vs) (s : HSub h g) : Gro h H es n ov vs := by
  refine ⟨s.trans a.sub,?_⟩
  rcases a.own with h1 | ⟨io,h1,h2⟩
  · exact .inl h1
  · exact .inr ⟨io,Nat.le_trans s.1 h1,h2⟩
end Go.Proofs.Ab
namespace Go.Proofs.Ab
open Go Go.Proofs
theorem nextD_snoc {l : List Span} {s : Span} {m : Int} (hl : ∀ x ∈ l,0 ≤ x.low) (hm : 0 ≤ m) : nextD (l ++ [s]) m = if nextD l m < 0 then (if m ≤ s.high then max m s.low else -1) else nextD l m := by
  induction l with
  | nil => simp [nextD]
  | cons a l ih =>
    have hi := ih fun x hx => hl x (List.mem_cons_of_mem _ hx)
    by_cases h : m ≤ a.high
    · have := hl a List.mem_cons_self
      have h5 : ¬ max m a.low < 0 := by omega
      simp only [List.cons_append,nextD,h,if_true,h5,if_false]
    · simp only [List.cons_append,nextD,h,if_false,hi]
theorem idxOf_snoc {p : Nat → Bool} {k : Nat} : idxOf p (List.range (k + 1)) = if idxOf p (List.range k) < 0 then (if p k then (k : Int) else -1) else idxOf p (List.range k) := by
  unfold idxOf
  rw [List.range_succ,List.findIdx?_append]
  cases e : (List.range k).findIdx? p with
  | none =>
    simp only [Option.none_or,List.findIdx?_cons,List.findIdx?_nil,List.length_range]
    cases hp : p k <;> simp
  | some i => simp; omega
structure SpI (r : Nat → Bool) (k : Nat) (out : List Span) : Prop where
  bd : ∀ s ∈ out,0 ≤ s.low ∧ s.low ≤ s.high ∧ s.high < k
  nx : ∀ m : Int,0 ≤ m → nextD out m = idxOf (fun (t : Nat) => decide (m ≤ (t : Int)) && r t) (List.range k)
  wi : ∀ m : Nat,within out m = (decide (m < k) && r m)
theorem SpI.nil {r : Nat → Bool} : SpI r 0 [] := ⟨by simp,fun m _ => rfl,fun m => by simp [within]⟩
theorem SpI.no {r : Nat → Bool} {k : Nat} {out : List Span} (a : SpI r k out) (h : r k = false) : SpI r (k + 1) out := by
  refine ⟨fun s hs => by have := a.bd s hs; omega,fun m hm => ?_,fun m => ?_⟩
  · rw [a.nx m hm,idxOf_snoc,h]
    simp only [Bool.and_false,Bool.false_eq_true,if_false]
    split
    · rename_i h1; unfold idxOf at h1 ⊢; split at h1
      · omega
      · rfl
    · rfl
  · rw [a.wi]
    by_cases hm : m = k
    · subst hm; simp [h]
    · have : decide (m < k) = decide (m < k + 1) := by rw [decide_eq_decide]; omega
      rw [this]
theorem within_snoc {l : List Span} {s : Span} {m : Int} : within (l ++ [s]) m = (within l m || inB m s.low s.high) := by simp [within]
theorem SpI.yes {r : Nat → Bool} {k : Nat} {out : List Span} (a : SpI r k out) (h : r k = true) : SpI r (k + 1) (addT out k) := by
  have hp : ∀ m : Int,(decide (m ≤ (k : Int)) && r k) = decide (m ≤ (k : Int)) := fun m => by rw [h,Bool.and_true]
  have hnew : (∀ init s,out = init ++ [s] → s.high ≠ (k : Int) - 1) → SpI r (k + 1) (out ++ [⟨k,k⟩]) := fun _ => by
    refine ⟨fun s hs => ?_,fun m hm => ?_,fun m => ?_⟩
    · rcases List.mem_append.1 hs with h1 | h1
      · have := a.bd s h1; omega
      · simp only [List.mem_singleton] at h1; subst h1; simp; omega
    · rw [nextD_snoc (fun x hx => (a.bd x hx).1) hm,a.nx m hm,idxOf_snoc,hp]
      simp only [decide_eq_true_eq]
      split
      · split
        · omega
        · rfl
      · rfl
    · rw [within_snoc,a.wi]
      simp only [inB]
      by_cases hm : m = k
      · subst hm; simp [h]
      · have e1 : decide (m < k) = decide (m < k + 1) := by rw [decide_eq_decide]; omega
        have e2 : (decide ((k : Int) ≤ (m : Int)) && decide ((m : Int) ≤ (k : Int))) = false := by
          rcases Nat.lt_or_ge m k with h1 | h1
          · rw [decide_eq_false (by omega)]; rfl
          · rw [decide_eq_false (show ¬ (m : Int) ≤ (k : Int) by omega),Bool.and_false]
        rw [e1,e2,Bool.or_false]
  rcases List.eq_nil_or_concat out with rfl | ⟨init,s,rfl⟩
  · exact hnew fun init s e => by simp at e
  · rw [List.concat_eq_append] at *
    by_cases hs : s.high = (k : Int) - 1
    · have e : addT (init ++ [s]) k = init ++ [⟨s.low,k⟩] := by simp [addT,hs]
      rw [e]
      have hb := a.bd s (by simp)
      have hi : ∀ x ∈ init,0 ≤ x.low := fun x hx => (a.bd x (by simp [hx])).1
      refine ⟨fun x hx => ?_,fun m hm => ?_,fun m => ?_⟩
      · rcases List.mem_append.1 hx with h1 | h1
        · have := a.bd x (by simp [h1]); omega
        · simp only [List.mem_singleton] at h1; subst h1; simp; omega
      · have o := a.nx m hm
        rw [nextD_snoc hi hm] at o ⊢
        rw [idxOf_snoc,hp,← o]
        simp only [decide_eq_true_eq]
        by_cases h1 : nextD init m < 0
        · by_cases h3 : m ≤ s.high
          · have h4 : m ≤ (k : Int) := by omega
            have h5 : ¬ max m s.low < 0 := by omega
            simp only [h1,h3,h4,h5,if_true,if_false]
          · have h5 : (-1 : Int) < 0 := by omega
            by_cases h4 : m ≤ (k : Int)
            · simp only [h1,h3,h4,h5,if_true,if_false]; omega
            · simp only [h1,h3,h4,h5,if_true,if_false]
        · simp only [h1,if_false]
      · have o := a.wi m
        rw [within_snoc] at o ⊢
        simp only [inB] at o ⊢
        by_cases hm : m = k
        · subst hm
          rw [decide_eq_true (show s.low ≤ (m : Int) by omega),decide_eq_true (Int.le_refl _),decide_eq_true (by omega),h]; simp
        · have e1 : decide (m < k + 1) = decide (m < k) := by rw [decide_eq_decide]; omega
          have e2 : decide ((m : Int) ≤ (k : Int)) = decide ((m : Int) ≤ s.high) := by rw [decide_eq_decide]; omega
          rw [e1,e2]; exact o
    · have e : addT (init ++ [s]) k = init ++ [s] ++ [⟨k,k⟩] := by simp [addT,hs]
      rw [e]
      exact hnew fun init' s' e' => by
        have := List.append_inj_right' e' rfl
        simp only [List.cons.injEq,and_true] at this
        subst this; exact hs
theorem SpI.all {r : Nat → Bool} : ∀ k,k ≤ 1441 → SpI r k (spL 0 [] ((rowB r).take k)) := by
  intro k hk
  induction k with
  | zero => exact SpI.nil
  | succ k ih =>
    have i := ih (by omega)
    have hl : (rowB r)[k]? = some (r k) := by rw [rowB,List.getElem?_map,List.getElem?_range (by omega)]; rfl
    rw [List.take_add_one,hl,Option.toList,spL_snoc,List.length_take,Nat.zero_add,Nat.min_eq_left (by simp [rowB]; omega)]
    cases e : r k with
    | true => rw [if_pos rfl]; exact i.yes e
    | false => exact i.no e
theorem spans_I (r : Nat → Bool) : SpI r 1441 (spansD (rowB r)) := by
  have := SpI.all (r := r) 1441 (Nat.le_refl _)
  rwa [List.take_of_length_le (by simp [rowB])] at this
theorem within_spans {r : Nat → Bool} {m : Nat} : within (spansD (rowB r)) m = (decide (m < 1441) && r m) := (spans_I r).wi m
end Go.Proofs.Ab
namespace Go.Proofs.Ab
open Go Go.Proofs
variable {w0 : World} {h : Heap}
attribute [local irreducible] ACall ACallV AYield DCall DCallV rvC rdC lp rg dr ex un rv rd'
def OwnSp (io : Nat) (G : Heap) (y : AV) (l : List Span) : Prop := (y = .nilS ∧ l = []) ∨ ∃ k,k ≠ io ∧ y = .sl (.own k 0) l.length 2 false ∧ G[k]? = some (some (.row (flatS l)))
theorem OwnSp.sl {io : Nat} {G : Heap} {y : AV} {l : List Span} (a : OwnSp io G y l) : Sl w0 G 2 y (l.map Span.c) := by
  rcases a with ⟨rfl,rfl⟩ | ⟨k,_,rfl,h2⟩
  · exact .inl ⟨rfl,rfl⟩
  · have := Sl_own (w0 := w0) (H := G) (full := false) (io := k) (rows := l.map Span.c) (es := 2) h2 (sp_len _)
    rwa [List.length_map] at this
theorem OwnSp.sub {io : Nat} {G H : Heap} {y : AV} {l : List Span} (a : OwnSp io G y l) (s : HSub G H) : OwnSp io H y l := by
  rcases a with h1 | ⟨k,h0,h1,h2⟩
  · exact .inl h1
  · exact .inr ⟨k,h0,h1,s.2 _ _ h2⟩
theorem OwnSp.set {io : Nat} {G : Heap} {y : AV} {l : List Span} {x : Option Blk} (a : OwnSp io G y l) : OwnSp io (G.set io x) y l := by
  rcases a with h1 | ⟨k,h0,h1,h2⟩
  · exact .inl h1
  · exact .inr ⟨k,h0,h1,by rw [List.getElem?_set_ne (Ne.symm h0)]; exact h2⟩
theorem spansD_len {r : Nat → Bool} : (spansD (rowB r)).length < 1000000 := by
  have h1 : ∀ k,k ≤ 1441 → (spL 0 [] ((rowB r).take k)).length ≤ k := by
    intro k hk
    induction k with
    | zero => simp [spL]
    | succ k ih =>
      have i := ih (by omega)
      have hl : (rowB r)[k]? = some (r k) := by rw [rowB,List.getElem?_map,List.getElem?_range (by omega)]; rfl
      rw [List.take_add_one,hl,Option.toList,spL_snoc]
      split
      · exact Nat.le_trans addT_len (by omega)
      · omega
  have h2 := h1 1441 (Nat.le_refl _)
  rw [List.take_of_length_le (by simp [rowB])] at h2
  exact Nat.lt_of_le_of_lt h2 (by decide)
end Go.Proofs.Ab
namespace Go.Proofs.Ab
open Go Go.Proofs
variable {w : World} {h : Heap} {cs : List Value}
def spanRw : Rw := .int (.int .nil)
def stopRw : Rw := .sl spanRw (.int .nil)
def chainRw : Rw := .sl stopRw (.sl spanRw .nil)
theorem span_of (g : Gd w spanRw cs) : ∃ s : Span,cs.map inj = s.c ∧ I64 s.low ∧ I64 s.high := by
  obtain ⟨a,_,rfl,h1,b,_,rfl,h2,rfl⟩ := g
  exact ⟨⟨a,b⟩,rfl,h1,h2⟩
theorem zip_stops (l : List (AV × StopD)) : stopRows (l.map Prod.fst) (l.map Prod.snd) = l.map fun x => stopC x.1 x.2 := by
  induction l with
  | nil => rfl
  | cons a l ih => simp only [stopRows,List.map_cons,List.zipWith_cons_cons] at ih ⊢; rw [ih]
theorem chain_of (g : Gd w chainRw cs) : ∃ (c : ChainD) (v : ChainV),cs.map inj = chainC v ∧ ChainS w h c v ∧ c.stops.length ≤ 9223372036854775807 := by
  obtain ⟨v0,_,rfl,g0,v1,_,rfl,g1,rfl⟩ := g
  obtain ⟨rows,h1,h2,h3⟩ := rows_of (h := h) g0
  obtain ⟨l,rfl,hl⟩ := rows_map (f := fun x : AV × StopD => stopC x.1 x.2) (p := fun x => Sl w h 2 x.1 (x.2.windows.map Span.c)) (rows := rows) fun c hc => by
    obtain ⟨cs,rfl,u,_,rfl,g2,n,_,rfl,_,rfl⟩ := h3 c hc
    obtain ⟨q,hq,_⟩ := slice_of (h := h) Span.c rfl g2 fun _ g => by
      obtain ⟨a,x,_⟩ := span_of g
      exact ⟨a,x⟩
    exact ⟨(inj u,⟨q,n⟩),rfl,hq⟩
  obtain ⟨l1,s1,_⟩ := slice_of (h := h) Span.c rfl g1 fun _ g => by
    obtain ⟨a,x,_⟩ := span_of g
    exact ⟨a,x⟩
  refine ⟨⟨l.map Prod.snd,l1⟩,⟨inj v0,inj v1,l.map Prod.fst⟩,rfl,⟨by simp,?_,?_,s1⟩,by simpa using h2⟩
  · rw [zip_stops]; exact h1
  · intro j x s hx hs
    simp only [List.getElem?_map,Option.map_eq_some_iff] at hx hs
    obtain ⟨a,a1,rfl⟩ := hx
    obtain ⟨b,b1,rfl⟩ := hs
    rw [a1] at b1; cases b1
    exact hl _ (List.mem_of_getElem? a1)
theorem int_of {v : Value} (g : Gd w (.int .nil) [v]) : ∃ n : Int,inj v = .int .i64 n ∧ I64 n := by
  obtain ⟨n,_,e,h,rfl⟩ := g
  cases e; exact ⟨n,rfl,h⟩
theorem list_of {v : Value} (g : Gd w (.sl (.int .nil) .nil) [v]) : ∃ l : List Int,SlI w h (inj v) l ∧ l.length ≤ 9223372036854775807 := by
  obtain ⟨_,_,e,h,rfl⟩ := g
  cases e; exact ints_of h
end Go.Proofs.Ab
namespace Go.Proofs.Ab
open Go Go.Proofs
variable {w0 : World} {h : Heap}
attribute [local irreducible] ACall ACallV AYield DCall DCallV rvC rdC lp rg dr ex un rv rd'
end Go.Proofs.Ab
namespace Go.Proofs.Ab
open Go Go.Proofs
variable {w0 : World} {h : Heap}
attribute [local irreducible] ACall ACallV AYield DCall DCallV rvC rdC lp rg dr ex un rv rd'
theorem departD_at {c : ChainD} {i : Nat} (hi : i < c.legs.length) : ∀ (h : i < (departD c).length),(departD c)[i] = spansD (rowB (goodT c i)) := fun h => departD_get h
theorem rflown_c (c : ChainD) (v : ChainV) (legs : List Int) (lv : AV) (hR : ChainR w0 h c v) (hl : SlI w0 h lv legs) : DCall Try.prog w0 24 [.agg (chainC v),lv] h (.bool (decide (legs.length = c.legs.length) && flownB c legs)) h := by
  refine DCall_quiet hmix mf24_ok mf24_b mf24_g (Nat.le_of_ble_eq_true rfl) (by simp [AV.bdd,AV.bdds]) fun hb ha => ex_in ?_
  have o1 := hR.stops.one.1
  have o2 := hR.legs.one.1
  have l2 := hR.legs.use.1
  simp only [List.length_map] at l2
  have hll := hR.ll
  obtain ⟨l3,q,q1,q2⟩ := SlI.use hl
  simp only [go_sem,mf24,o1,o2]
  refine lp_all (fun j => [(1,lv),(2,.ptr (.own h.length 0)),(5,.int .i64 j)]) (fun j => inB (legs.getD j 0) (legD c j).low (legD c j).high = true) (min legs.length c.legs.length) rfl (fun j hj hi ih => ?_) (fun hall => ?_)
  · refine lp_step hmix L24_0_g [1,2,5] L24_0.eq_1 ?_
    have j1 : j < legs.length := by omega
    have j2 : j < c.legs.length := by omega
    have e1 : (j : Int) < legs.length := by omega
    have e2 : (j : Int) < c.legs.length := by omega
    obtain ⟨p,p1,p2⟩ := hR.leg (j := j) j2
    obtain ⟨s,es⟩ : ∃ s,c.legs[j] = s := ⟨_,rfl⟩
    rw [es] at p2
    have gs : legD c j = s := by rw [legD,getD_at j2,es]
    have t1 : ∀ L,rd w0 (h ++ L) (p.add 0) = some (.int .i64 s.low) := fun L => rd_get (p2 L) rfl
    have t2 : ∀ L,rd w0 (h ++ L) (p.add 1) = some (.int .i64 s.high) := fun L => rd_get (p2 L) rfl
    have q1' := q1 j j1
    have q2' := q2 j j1
    have gl : legs.getD j 0 = legs[j] := getD_at j1
    have no : inB legs[j] s.low s.high = false → (decide (legs.length = c.legs.length) && flownB c legs) = false := fun e => by
      have : flownB c legs = false := List.all_eq_false.2 ⟨j,List.mem_range.2 j1,by rw [gl,gs,e]; simp⟩
      rw [this,Bool.and_false]
    simp only [go_sem,l3,l2,e1,e2,p1,t1,t2,q1',q2']
    refine ⟨fun a1 => ⟨fun a2 => ?_,fun a2 => ⟨(by unfold I64; omega),ih ?_⟩⟩,fun a1 => ?_⟩
    · rw [no (by simp [inB]; omega)]
    · rw [gl,gs]; simp [inB]; omega
    · rw [no (by simp [inB]; omega)]
  · refine lp_step hmix L24_0_g [1,2,5] L24_0.eq_1 ?_
    by_cases hle : legs.length ≤ c.legs.length
    · rw [Nat.min_eq_left hle] at hall ⊢
      have x1 : ¬ (legs.length : Int) < legs.length := by omega
      simp only [go_sem,l3,l2,x1]
      have : flownB c legs = true := all_range_iff.2 hall
      have e2 : ((legs.length : Int) == (c.legs.length : Int)) = decide (legs.length = c.legs.length) := by
        rw [Bool.eq_iff_iff]; simp; omega
      rw [this,Bool.and_true,e2]
    · rw [Nat.min_eq_right (by omega)] at hall ⊢
      have x1 : (c.legs.length : Int) < legs.length := by omega
      have x2 : ¬ (c.legs.length : Int) < c.legs.length := by omega
      have x3 : ¬ (legs.length : Int) = (c.legs.length : Int) := by omega
      have x4 : ¬ legs.length = c.legs.length := by omega
      simp only [go_sem,l3,l2,x1,x2]
      simp [x4]; omega
end Go.Proofs.Ab
namespace Go.Proofs.Ab
open Go Go.Proofs
theorem firstBad_neg {go : Int → Bool} {m : Int} : ∀ {n : Nat} {d : Int},0 ≤ d → firstBad go m n d < 0 → ∀ x,d ≤ x → x < d + n → go (m + x) = true
  | 0,d,_,_,x,h1,h2 => by omega
  | n + 1,d,hd,h,x,h1,h2 => by
    rw [firstBad] at h
    split at h
    · rename_i e
      by_cases hx : x = d
      · rw [hx]; exact e
      · exact firstBad_neg (by omega) h x (by omega) (by omega)
    · omega
theorem fromD_spec {r : Nat → Bool} {m : Int} (h : 0 ≤ fromD r m) : m ≤ fromD r m ∧ fromD r m ≤ 1440 ∧ r (fromD r m).toNat = true := by
  unfold fromD idxOf at h ⊢
  split at h
  · rename_i i e
    rw [List.findIdx?_eq_some_iff_getElem] at e
    obtain ⟨hi,hp,_⟩ := e
    rw [List.length_range] at hi
    rw [List.getElem_range,Bool.and_eq_true,decide_eq_true_eq] at hp
    exact ⟨hp.1,by omega,by rw [Int.toNat_natCast]; exact hp.2⟩
  · omega
theorem good_next {c : ChainD} {i t : Nat} {d : Int} (hB : chainB c = true) (hi : i < c.legs.length) (hg : goodT c i t = true) (hd : inB d (legD c i).low (legD c i).high = true) :
    within (stopD c i).windows t = true ∧ within (stopD c (i + 1)).windows (t + d) = true ∧ (i + 1 < c.legs.length → 0 ≤ fromD (goodT c (i + 1)) (t + d + (stopD c (i + 1)).turn)) := by
  have bs := chainB_spec hB
  have hl : 0 ≤ (legD c i).low := by rw [legD,getD_at hi]; exact (bs.2.2.2.2 _ (List.getElem_mem hi)).1
  rw [goodT_eq hi,Bool.and_eq_true,decide_eq_true_eq] at hg
  simp only [inB,Bool.and_eq_true,decide_eq_true_eq] at hd
  have h1 := firstBad_neg (go := goesD c i (goodT c (i + 1))) (m := t) hl hg.2 d hd.1 (by omega)
  unfold goesD at h1
  simp only [Bool.and_eq_true,Bool.or_eq_true,decide_eq_true_eq] at h1
  refine ⟨hg.1,h1.1,fun h2 => ?_⟩
  rcases h1.2 with h3 | h3
  · omega
  · exact h3
theorem ride_safe {c : ChainD} (hB : chainB c = true) : ∀ (l : List Int) (i : Nat) (mm : Int),i + l.length = c.legs.length → 0 ≤ mm → mm ≤ 1440 → (l ≠ [] → goodT c i mm.toNat = true) → (∀ k (h : k < l.length),inB l[k] (legD c (i + k)).low (legD c (i + k)).high = true) →
    ((mm :: rideL c i mm l).length = max 1 (2 * l.length)) ∧ ∀ k (h : k < l.length),∃ a b,(mm :: rideL c i mm l)[2 * k]? = some a ∧ (mm :: rideL c i mm l)[2 * k + 1]? = some b ∧ within (stopD c (i + k)).windows a = true ∧ within (stopD c (i + k + 1)).windows b = true ∧ b = a + l[k] ∧ 0 ≤ a ∧ a ≤ 1440 ∧
      (k ≠ 0 → ∃ z,(mm :: rideL c i mm l)[2 * k - 1]? = some z ∧ 0 ≤ z ∧ z + (stopD c (i + k)).turn ≤ a)
  | [],i,mm,_,_,_,_,_ => ⟨rfl,fun k h => absurd h (by simp)⟩
  | d :: ds,i,mm,hi,h0,h1,hg,hd => by
    simp only [List.length_cons] at hi
    obtain ⟨t,rfl⟩ : ∃ t : Nat,mm = t := ⟨mm.toNat,by omega⟩
    have hg0 := hg (by simp)
    rw [Int.toNat_natCast] at hg0
    have hd0 : inB d (legD c i).low (legD c i).high = true := hd 0 (by simp)
    have hdn : 0 ≤ d := by
      have h1 : 0 ≤ (legD c i).low := by rw [legD,getD_at (by omega)]; exact ((chainB_spec hB).2.2.2.2 _ (List.getElem_mem (by omega))).1
      simp only [inB,Bool.and_eq_true,decide_eq_true_eq] at hd0; omega
    obtain ⟨g1,g2,g3⟩ := good_next hB (by omega) hg0 hd0
    have first : ∀ R : List Int,∃ a b,((t : Int) :: ((t : Int) + d) :: R)[2 * 0]? = some a ∧ ((t : Int) :: ((t : Int) + d) :: R)[2 * 0 + 1]? = some b ∧ within (stopD c (i + 0)).windows a = true ∧ within (stopD c (i + 0 + 1)).windows b = true ∧ b = a + d ∧ 0 ≤ a ∧ a ≤ 1440 ∧
      ((0 : Nat) ≠ 0 → ∃ z,((t : Int) :: ((t : Int) + d) :: R)[2 * 0 - 1]? = some z ∧ 0 ≤ z ∧ z + (stopD c (i + 0)).turn ≤ a) := fun R => ⟨t,t + d,rfl,rfl,g1,g2,rfl,by omega,by omega,fun e => absurd rfl e⟩
    rw [rideL]
    by_cases hn : i + 1 < c.legs.length
    · rw [if_pos hn]
      have hne : ds ≠ [] := by rintro rfl; simp at hi; omega
      have g4 := g3 hn
      obtain ⟨f1,f2,f3⟩ := fromD_spec g4
      obtain ⟨m2,em2⟩ : ∃ m2,m2 = fromD (goodT c (i + 1)) ((t : Int) + d + (stopD c (i + 1)).turn) := ⟨_,rfl⟩
      rw [← em2] at g4 f1 f2 f3 ⊢
      obtain ⟨k1,k2⟩ := ride_safe hB ds (i + 1) m2 (by omega) g4 f2 (fun _ => f3) (fun k h => by
        have := hd (k + 1) (by simp; omega)
        rw [show i + (k + 1) = i + 1 + k by omega] at this
        simpa using this)
      have hdl : 1 ≤ ds.length := by cases ds with | nil => exact absurd rfl hne | cons => simp
      refine ⟨by simp only [List.length_cons] at k1 ⊢; omega,fun k h => ?_⟩
      cases k with
      | zero => exact first _
      | succ k =>
        obtain ⟨a,b,q1,q2,q3,q4,q5,q6,q7,q8⟩ := k2 k (by simpa using h)
        refine ⟨a,b,by rw [show 2 * (k + 1) = 2 * k + 1 + 1 by omega]; exact q1,by rw [show 2 * (k + 1) + 1 = 2 * k + 1 + 1 + 1 by omega]; exact q2,by rw [show i + (k + 1) = i + 1 + k by omega]; exact q3,by rw [show i + (k + 1) + 1 = i + 1 + k + 1 by omega]; exact q4,q5,q6,q7,fun _ => ?_⟩
        cases k with
        | zero =>
          have : a = m2 := by simpa using q1.symm
          exact ⟨t + d,rfl,by omega,by rw [this]; exact f1⟩
        | succ k =>
          obtain ⟨z,z1,z0,z2⟩ := q8 (by omega)
          refine ⟨z,?_,z0,by rw [show i + (k + 1 + 1) = i + 1 + (k + 1) by omega]; exact z2⟩
          rw [show 2 * (k + 1 + 1) - 1 = 2 * (k + 1) - 1 + 1 + 1 by omega]; exact z1
    · rw [if_neg hn]
      obtain rfl : ds = [] := List.length_eq_zero_iff.1 (by omega)
      refine ⟨rfl,fun k h => ?_⟩
      obtain rfl : k = 0 := by simpa using h
      exact first _
end Go.Proofs.Ab
namespace Go.Proofs.Ab
open Go Go.Proofs
variable {w0 : World} {h : Heap}
attribute [local irreducible] ACall ACallV AYield DCall DCallV rvC rdC lp rg dr ex un rv rd'
theorem within_dep {c : ChainD} {i : Nat} {m : Int} (hm : 0 ≤ m ∧ m ≤ 1440) : within (spansD (rowB (goodT c i))) m = goodT c i m.toNat := by
  obtain ⟨k,rfl⟩ : ∃ k : Nat,m = k := ⟨m.toNat,by omega⟩
  rw [within_spans,decide_eq_true (by omega)]; simp
theorem HopSafe_c (c : ChainD) (v : ChainV) (m : Int) (legs : List Int) (lv : AV) (hS : ChainS w0 h c v) (hl : c.stops.length ≤ 9223372036854775807) (hlv : SlI w0 h lv legs) (hll : legs.length ≤ 9223372036854775807) : DCall Try.prog w0 5 [.agg (chainC v),.int .i64 m,lv] h (.bool true) h := by
  refine DCall_forget trivial (ACall_sx hmix mf5_ok mf5_b mf5_g (Nat.le_of_ble_eq_true rfl) fun hb ha => ex_in ?_)
  have o1 := hS.stops.one.1
  have o2 := hS.legs.one.1
  have l3 := (SlI.use hlv).1
  obtain ⟨H0,eH0⟩ : ∃ H0 : Heap,H0 = h ++ [some (.row [v.sv,v.lv])] := ⟨_,rfl⟩
  have s0 : HSub h H0 := eH0 ▸ HSub.refl.app
  have g0 : H0[h.length]? = some (some (.row [v.sv,v.lv])) := by rw [eH0]; simp
  have b0 : ∀ L,(H0 ++ L)[h.length]? = some (some (.row [v.sv,v.lv])) := fun L => getElem?_app_left g0
  simp only [go_sem,mf5,o1,o2]
  rw [← eH0]
  have hS0 : ChainS w0 H0 c v := hS.sub s0
  refine rvC_use (brief_c c v hS0 hl).v ?_
  cases e1 : briefB c with
  | false =>
    simp only [go_sem]
    refine rvC_use known_c.v ?_
    simp only [go_sem]
    exact s0
  | true =>
  have hR := hS.R e1
  have hR0 := hR.sub s0
  simp only [go_sem,g0,b0,o1,o2]
  refine rvC_use (rchain_c c v hR0).v ?_
  cases hB : chainB c with
  | false =>
    simp only [go_sem]
    refine rvC_use known_c.v ?_
    simp only [go_sem]
    exact s0
  | true =>
  by_cases y1 : m < 0
  · simp only [go_sem,y1]
    refine rvC_use known_c.v ?_
    simp only [go_sem]
    exact s0
  by_cases y2 : 1440 < m
  · simp only [go_sem,y1,y2]
    refine rvC_use known_c.v ?_
    simp only [go_sem]
    exact s0
  simp only [go_sem,y1,y2,g0,b0,o1,o2]
  refine rvC_use (rflown_c c v legs lv hR0 (Sl.sub hlv s0)).v ?_
  cases e3 : decide (legs.length = c.legs.length) && flownB c legs with
  | false =>
    simp only [go_sem]
    refine rvC_use known_c.v ?_
    simp only [go_sem]
    exact s0
  | true =>
  have bs := chainB_spec hB
  have hmb : 0 ≤ m ∧ m ≤ 1440 := by omega
  have hmi : inB m 0 1440 = true := by simp [inB]; omega
  have e4 := e3
  simp only [Bool.and_eq_true,decide_eq_true_eq] at e4
  obtain ⟨e4,e5⟩ := e4
  have hln : legs.length < 1000000 := by have := hR.ll; omega
  simp only [go_sem,g0,b0,o1,o2]
  refine rvC_post (ACall.vc (first := []) (args := [.agg (chainC v)]) (Depart_c c v hR0)) ?_
  rintro y H1 ⟨s1,hD⟩
  rw [if_pos hB] at hD
  obtain ⟨gv,rfl,hg⟩ := hD
  have t1 := s0.trans s1
  have g1 := s1.2 _ _ g0
  have b1 : ∀ L,(H1 ++ L)[h.length]? = some (some (.row [v.sv,v.lv])) := fun L => getElem?_app_left g1
  have hR1 := hR.sub t1
  have ln : lenV gv = some (.int .i64 (c.legs.length : Int)) := by rw [← departD_len (c := c)]; exact NS.len hg
  have l2 := hR.legs.use.1
  simp only [List.length_map] at l2
  simp only [go_sem,g1,b1,o1,o2,ln,l2]
  refine rvC_post (ACall.vc (first := []) (args := [.agg (chainC v),.int .i64 m,lv]) (Ride_c c v m legs lv hR1 (Sl.sub hlv t1) hln)) ?_
  rintro y H2 ⟨s2,hK⟩
  rw [if_pos (by rw [hB,hmi,e3]; rfl)] at hK
  have t2 := t1.trans s2
  have g2 := s2.2 _ _ g1
  have b2 : ∀ L,(H2 ++ L)[h.length]? = some (some (.row [v.sv,v.lv])) := fun L => getElem?_app_left g2
  have hg2 := hg.sub s2
  obtain ⟨p0,x0,i0,r0,q0⟩ := hg2.at_ (j := 0) (by rw [departD_len]; omega)
  rw [departD_at (by omega)] at q0
  have r0' := r0 []
  rw [List.append_nil] at r0'
  cases e6 : goodT c 0 m.toNat with
  | false =>
    rw [if_neg (by simp [e6])] at hK
    subst hK
    simp only [go_sem,i0,r0,r0']
    refine rvC_use (rwithin_c (spansD (rowB (goodT c 0))) x0 m q0 spansD_len).v ?_
    rw [within_dep hmb,e6]
    simp only [go_sem]
    refine rvC_use known_c.v ?_
    simp only [go_sem]
    exact t2
  | true =>
  rw [if_pos e6] at hK
  obtain ⟨lx,rfl,hx⟩ := hK
  simp only [go_sem,i0,r0,r0']
  refine rvC_use (rwithin_c (spansD (rowB (goodT c 0))) x0 m q0 spansD_len).v ?_
  rw [within_dep hmb,e6]
  obtain ⟨n,en⟩ : ∃ n,c.legs.length = n := ⟨_,rfl⟩
  have hlegs : ∀ k (hk : k < legs.length),inB legs[k] (legD c (0 + k)).low (legD c (0 + k)).high = true := fun k hk => by
    have := (all_range_iff.1 e5) k hk
    rw [getD_at hk] at this
    rwa [Nat.zero_add]
  obtain ⟨sf1,sf2⟩ := ride_safe hB legs 0 m (by omega) hmb.1 hmb.2 (fun _ => e6) hlegs
  have hrl : (rideD c m legs).length = 2 * n := by rw [rideD,sf1]; omega
  obtain ⟨lx1,qx,ix,rx⟩ := SlI.use hx
  rw [hrl] at lx1 ix
  have ix0 := ix 0 (by omega)
  have rx0 : ∀ L,rd w0 (H2 ++ L) (qx.add 0) = some (.int .i64 m) := fun L => rx 0 (by omega) L
  have rx0' := rx0 []
  rw [List.append_nil] at rx0'
  have l3' : lenV lv = some (.int .i64 (n : Int)) := by rw [l3,e4,en]
  have hI : I64 (2 * (n : Int)) := (by unfold I64; omega)
  simp only [go_sem,lx1,l3',hI,ix0,rx0,rx0']
  refine ⟨fun _ => ?_,fun e => absurd (by omega) e⟩
  refine lp_all (fun j => [(2,lv),(3,.ptr (.own h.length 0)),(9,lx),(11,.int .i64 j)]) (fun _ => True) n rfl (fun j hj _ ih => ?_) (fun _ => ?_)
  · refine lp_step hmix L5_0_g [2,3,9,11] L5_0.eq_1 ?_
    have f0 : (j : Int) < n := by omega
    have jl : j < legs.length := by omega
    obtain ⟨a,b,q1,q2,q3,q4,q5,q6,q7,q8⟩ := sf2 j jl
    rw [Nat.zero_add] at q3 q4 q8
    have hR2 := hR.sub t2
    obtain ⟨pa,xa,pa1,pa2,pa3⟩ := hR2.stop (j := j) (by omega)
    obtain ⟨sa,esa⟩ : ∃ s,c.stops[j]'(by omega) = s := ⟨_,rfl⟩
    rw [esa] at pa2 pa3
    have gsa : stopD c j = sa := by rw [stopD,getD_at (by omega),esa]
    have hsa := bs.2.2.2.1 sa (esa ▸ List.getElem_mem (by omega))
    obtain ⟨pb,xb,pb1,pb2,pb3⟩ := hR2.stop (j := j + 1) (by omega)
    obtain ⟨sb,esb⟩ : ∃ s,c.stops[j + 1]'(by omega) = s := ⟨_,rfl⟩
    rw [esb] at pb2 pb3
    have gsb : stopD c (j + 1) = sb := by rw [stopD,getD_at (by omega),esb]
    have hsb := bs.2.2.2.1 sb (esb ▸ List.getElem_mem (by omega))
    rw [gsa] at q3 q8
    rw [gsb] at q4
    have ta : ∀ L,rd w0 (H2 ++ L) (pa.add 0) = some xa := fun L => rd_get (pa2 L) rfl
    have ta1 : ∀ L,rd w0 (H2 ++ L) (pa.add 1) = some (.int .i64 sa.turn) := fun L => rd_get (pa2 L) rfl
    have tb : ∀ L,rd w0 (H2 ++ L) (pb.add 0) = some xb := fun L => rd_get (pb2 L) rfl
    have ta' := ta []
    have ta1' := ta1 []
    have tb' := tb []
    have g2' := b2 []
    rw [List.append_nil] at ta' ta1' tb' g2'
    have k1 : 2 * j < 2 * n := by omega
    have k2 : 2 * j + 1 < 2 * n := by omega
    have d1 : asNat (.int .i64 (2 * (j : Int))) = some (2 * j) := by rw [show 2 * (j : Int) = ((2 * j : Nat) : Int) by omega]; exact asNat_n
    have d1' : (if 0 ≤ 2 * (j : Int) then some (2 * (j : Int)).toNat else none) = some (2 * j) := by rw [if_pos (by omega)]; congr 1
    have d2' : (if 0 ≤ 2 * (j : Int) + 1 then some (2 * (j : Int) + 1).toNat else none) = some (2 * j + 1) := by rw [if_pos (by omega)]; congr 1
    have d3' : (if 0 ≤ (j : Int) + 1 then some ((j : Int) + 1).toNat else none) = some (j + 1) := by rw [if_pos (by omega)]; congr 1
    have I1 : I64 (2 * (j : Int)) := (by unfold I64; omega)
    have I2 : I64 (2 * (j : Int) + 1) := (by unfold I64; omega)
    have I3 : I64 ((j : Int) + 1) := (by unfold I64; omega)
    have ixa := ix (2 * j) k1
    have ixb := ix (2 * j + 1) k2
    have q1' : (rideD c m legs)[2 * j]? = some a := q1
    have q2' : (rideD c m legs)[2 * j + 1]? = some b := q2
    have va : (rideD c m legs)[2 * j]'(by omega) = a := (List.getElem?_eq_some_iff.1 q1').2
    have vb : (rideD c m legs)[2 * j + 1]'(by omega) = b := (List.getElem?_eq_some_iff.1 q2').2
    have ra : ∀ L,rd w0 (H2 ++ L) (qx.add (2 * j)) = some (.int .i64 a) := fun L => by rw [rx (2 * j) (by omega) L,va]
    have rb : ∀ L,rd w0 (H2 ++ L) (qx.add (2 * j + 1)) = some (.int .i64 b) := fun L => by rw [rx (2 * j + 1) (by omega) L,vb]
    have ra' := ra []
    have rb' := rb []
    obtain ⟨_,ql,il,rl⟩ := SlI.use (Sl.sub hlv t2)
    have il' := il j jl
    have rl' := rl j jl
    have rl'' := rl' []
    rw [List.append_nil] at ra' rb' rl''
    simp only [go_sem,l3',f0,g2',b2,pa1,ta,ta',I1,d1,d1',ixa,ra,ra']
    refine rdC_q (rwithin_c sa.windows xa a pa3 (by omega)).v ?_
    rw [q3]
    simp only [go_sem,g2',b2,I3,d3',pb1,tb,tb',I1,I2,d2',ixb,rb,rb']
    refine rdC_q (rwithin_c sb.windows xb b pb3 (by omega)).v ?_
    rw [q4]
    have I4 : I64 (a + legs[j]) := by
      have h1 := hlegs j jl
      rw [Nat.zero_add,legD,getD_at (by omega)] at h1
      have h2 := bs.2.2.2.2 c.legs[j] (List.getElem_mem (by omega))
      simp only [inB,Bool.and_eq_true,decide_eq_true_eq] at h1
      exact (by unfold I64; omega)
    simp only [go_sem,I1,I2,d1,d1',d2',ixa,ixb,ra,ra',rb,rb',il',rl',rl'',I4]
    refine ⟨fun e => absurd q5 e,fun _ => ⟨fun e7 => ?_,fun _ => ⟨(by unfold I64; omega),ih trivial⟩⟩⟩
    obtain ⟨z,z1,z0,z2⟩ := q8 (by omega)
    have z1' : (rideD c m legs)[2 * j - 1]? = some z := z1
    have vz : (rideD c m legs)[2 * j - 1]'(by omega) = z := (List.getElem?_eq_some_iff.1 z1').2
    have ixz := ix (2 * j - 1) (by omega)
    have rz : ∀ L,rd w0 (H2 ++ L) (qx.add (2 * j - 1)) = some (.int .i64 z) := fun L => by rw [rx (2 * j - 1) (by omega) L,vz]
    have rz' := rz []
    rw [List.append_nil] at rz'
    have d4' : (if 0 ≤ 2 * (j : Int) - 1 then some (2 * (j : Int) - 1).toNat else none) = some (2 * j - 1) := by rw [if_pos (by omega)]; congr 1; omega
    have I5 : I64 (2 * (j : Int) - 1) := (by unfold I64; omega)
    rw [d4']
    simp only [go_sem,ixz,rz,rz',g2',b2,pa1,ta1,ta1']
    exact ⟨I5,(by unfold I64; omega),fun e => absurd e (by omega),fun _ => ⟨(by unfold I64; omega),ih trivial⟩⟩
  · refine lp_step hmix L5_0_g [2,3,9,11] L5_0.eq_1 ?_
    have x1 : ¬ (n : Int) < n := by omega
    simp only [go_sem,l3',x1]
    refine rvC_use known_c.v ?_
    simp only [go_sem]
    exact t2
end Go.Proofs.Ab

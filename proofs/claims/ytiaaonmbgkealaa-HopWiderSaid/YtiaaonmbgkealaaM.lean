/- The own layer under the proofs of this seat, part M: what calls of the program come to on an abstract heap. No condition. -/
import Derived.Test.YtiaaonmbgkealaaL
import Derived.Test.YtiaaonmbgkealaaG
set_option linter.unusedSimpArgs false
set_option linter.unusedVariables false
namespace Go.Proofs.Ab
open Go Go.Proofs
variable {w0 : World} {h : Heap}
attribute [local irreducible] ACall ACallV AYield DCall DCallV rvC rdC lp rg dr ex un rv rd'
theorem rin_c (x lo hi : Int) : DCall Try.prog w0 66 [.int .i64 x,.int .i64 lo,.int .i64 hi] h (.bool (inB x lo hi)) h := by
  refine DCall_quiet hmix mf66_ok mf66_b mf66_g (Nat.le_of_ble_eq_true rfl) (by simp [AV.bdd,AV.bdds]) fun hb ha => ex_in ?_
  simp only [go_sem,mf66]
  exact ⟨fun a => by simp [inB,a],fun a => by simp [inB,a]⟩
theorem rwithin_c (l : List Span) (v : AV) (t : Int) (hv : Sl w0 h 2 v (l.map Span.c)) (hn : l.length < 1000000) : DCall Try.prog w0 25 [v,.int .i64 t] h (.bool (within l t)) h := by
  refine DCall_quiet hmix mf25_ok mf25_b mf25_g (Nat.le_of_ble_eq_true rfl) (by simp [AV.bdd,AV.bdds]) fun hb ha => ex_in ?_
  obtain ⟨hlen,q,hix,hrow,_⟩ := hv.use
  simp only [List.length_map] at hlen hix
  simp only [go_sem,mf25]
  refine lp_all (fun j => [(0,v),(1,.int .i64 t),(5,.int .i64 j)]) (fun j => ∀ hj : j < l.length,inB t l[j].low l[j].high = false) l.length rfl (fun j hj hall ih => ?_) (fun hall => ?_)
  · refine lp_step hmix L25_0_g [0,1,5] L25_0.eq_1 ?_
    have e1 := hix j hj
    have e3 : (j : Int) < l.length := by omega
    have e2 : ∀ L,rdn w0 (h ++ L) (q.add (j * 2)) 2 = some l[j].c := fun L => rdn_app (hrow j _ (by simp [hj]))
    have t1 : ∀ L,rd w0 (h ++ L) ((q.add (j * 2)).add 0) = some (.int .i64 l[j].low) := fun L => rd_get (e2 L) rfl
    have t2 : ∀ L,rd w0 (h ++ L) ((q.add (j * 2)).add 1) = some (.int .i64 l[j].high) := fun L => rd_get (e2 L) rfl
    simp only [go_sem,hlen,e1,t1,t2,e3]
    refine rdC_q (rin_c _ _ _).v ?_
    simp only [go_sem]
    refine ⟨fun e => ?_,fun e => ⟨(by unfold I64; omega),ih fun _ => e⟩⟩
    have : within l t = true := by rw [within,List.any_eq_true]; exact ⟨_,List.getElem_mem hj,e⟩
    rw [this]
  · refine lp_step hmix L25_0_g [0,1,5] L25_0.eq_1 ?_
    have e3 : ¬ (l.length : Int) < l.length := by omega
    simp only [go_sem,hlen,e3]
    have : within l t = false := by
      rw [within,List.any_eq_false]; intro w hw
      obtain ⟨j,hj,rfl⟩ := List.getElem_of_mem hw
      simp [hall j hj hj]
    rw [this]
def nextD : List Span → Int → Int
  | [],_ => -1
  | s :: l,m => if m ≤ s.high then max m s.low else nextD l m
def rwindowsB (l : List Span) : Bool := (List.range l.length).all (winB l) && decide (l.length ≤ 10)
theorem rwindows_c (l : List Span) (v : AV) (hv : Sl w0 h 2 v (l.map Span.c)) (hn : l.length < 1000000) : DCall Try.prog w0 65 [v] h (.bool (rwindowsB l)) h := by
  refine DCall_quiet hmix mf65_ok mf65_b mf65_g (Nat.le_of_ble_eq_true rfl) (by simp [AV.bdd,AV.bdds]) fun hb ha => ex_in ?_
  obtain ⟨hlen,q,hix,hrow,_⟩ := hv.use
  simp only [List.length_map] at hlen hix
  simp only [go_sem,mf65]
  refine lp_all (fun j => [(0,v),(3,.int .i64 j)]) (fun j => winB l j = true) l.length rfl (fun j hj hall ih => ?_) (fun hall => ?_)
  · refine lp_step hmix L65_0_g [0,3] L65_0.eq_1 ?_
    have e1 := hix j hj
    have e3 : (j : Int) < l.length := by omega
    have e2 : ∀ L,rdn w0 (h ++ L) (q.add (j * 2)) 2 = some l[j].c := fun L => rdn_app (hrow j _ (by simp [hj]))
    have t1 : ∀ L,rd w0 (h ++ L) ((q.add (j * 2)).add 0) = some (.int .i64 l[j].low) := fun L => rd_get (e2 L) rfl
    have t2 : ∀ L,rd w0 (h ++ L) ((q.add (j * 2)).add 1) = some (.int .i64 l[j].high) := fun L => rd_get (e2 L) rfl
    simp only [go_sem,hlen,e1,t1,t2,e3]
    have hg : l.getD j ⟨0,0⟩ = l[j] := getD_at hj
    have no : winB l j = false → AV.bool false = AV.bool (rwindowsB l) := fun e => by
      have : (List.range l.length).all (winB l) = false := List.all_eq_false.2 ⟨j,List.mem_range.2 hj,by simp [e]⟩
      simp [rwindowsB,this]
    refine ⟨fun a1 => ⟨fun a2 => ⟨fun a3 => ⟨fun a4 => ?_,fun a4 => ⟨(by unfold I64; omega),ih ?_⟩⟩,fun a3 => no ?_⟩,fun a2 => no ?_⟩,fun a1 => no ?_⟩
    · obtain ⟨k,rfl⟩ : ∃ k,j = k + 1 := ⟨j - 1,by omega⟩
      have hk : k < l.length := by omega
      have g2 : l.getD k ⟨0,0⟩ = l[k] := getD_at hk
      have hp := hall k (by omega)
      simp only [winB,g2,spanB,Bool.and_eq_true,decide_eq_true_eq] at hp
      have d2 : asNat (.int .i64 (((k + 1 : Nat) : Int) - 1)) = some k := by rw [show ((k + 1 : Nat) : Int) - 1 = (k : Int) by omega]; exact asNat_n
      have d2' : (if 0 ≤ ((k + 1 : Nat) : Int) - 1 then some (((k + 1 : Nat) : Int) - 1).toNat else none) = some k := by rw [if_pos (by omega),show ((k + 1 : Nat) : Int) - 1 = (k : Int) by omega,Int.toNat_natCast]
      have i1 := hix k hk
      have r1 : ∀ L,rd w0 (h ++ L) ((q.add (k * 2)).add 1) = some (.int .i64 l[k].high) := fun L => rd_get (rdn_app (hrow k l[k].c (by simp [hk]))) rfl
      have hI : I64 (((k + 1 : Nat) : Int) - 1) := (by unfold I64; omega)
      rw [d2']
      simp only [go_sem,i1,r1,hI]
      have hz : (k + 1 == 0) = false := rfl
      refine ⟨(by unfold I64; omega),fun a5 => no ?_,fun a5 => ⟨(by unfold I64; omega),ih ?_⟩⟩
      · simp only [winB,hg,Nat.add_sub_cancel,g2,hz,Bool.false_or,spanB]
        simp; omega
      · simp only [winB,hg,Nat.add_sub_cancel,g2,hz,Bool.false_or,spanB]
        simp; omega
    · obtain rfl : j = 0 := by omega
      simp only [winB,hg,spanB]
      simp; omega
    · simp only [winB,hg,spanB,decide_eq_false (show ¬ l[j].high ≤ 1440 by omega)]; simp
    · simp only [winB,hg,spanB,decide_eq_false (show ¬ l[j].low ≤ l[j].high by omega)]; simp
    · simp only [winB,hg,spanB,decide_eq_false (show ¬ 0 ≤ l[j].low by omega)]; simp
  · refine lp_step hmix L65_0_g [0,3] L65_0.eq_1 ?_
    have e3 : ¬ (l.length : Int) < l.length := by omega
    have h5 : ((l.length : Int) ≤ 10) = (l.length ≤ 10) := by simp only [eq_iff_iff]; omega
    simp only [go_sem,hlen,e3,h5]
    have : (List.range l.length).all (winB l) = true := List.all_eq_true.2 fun x hx => hall x (List.mem_range.1 hx)
    simp [rwindowsB,this]
theorem rchain_c (c : ChainD) (v : ChainV) (hR : ChainR w0 h c v) : DCall Try.prog w0 19 [.agg (chainC v)] h (.bool (chainB c)) h := by
  refine DCall_quiet hmix mf19_ok mf19_b mf19_g (Nat.le_of_ble_eq_true rfl) (by simp [AV.bdd,AV.bdds]) fun hb ha => ex_in ?_
  have o1 := hR.stops.one.1
  have o2 := hR.legs.one.1
  have l1 := hR.stops.use.1
  rw [stopRows_len hR.toChainS] at l1
  have l2 := hR.legs.use.1
  simp only [List.length_map] at l2
  have hls := hR.ls
  have hll := hR.ll
  have st : ∀ s : StopD,(rwindowsB s.windows && inB s.turn 0 300) = stopB s := fun s => by
    simp only [rwindowsB,stopB,windowsB]
    cases (List.range s.windows.length).all (winB s.windows) <;> cases inB s.turn 0 300 <;> simp
  simp only [go_sem,mf19,o1,o2]
  refine lp_all (fun j => [(1,.ptr (.own h.length 0)),(3,.int .i64 j)]) (fun j => ∀ hj : j < c.stops.length,stopB c.stops[j] = true) c.stops.length rfl (fun j hj hi ih => ?_) (fun es => ?_)
  · refine lp_step hmix L19_0_g [1,3] L19_0.eq_1 ?_
    obtain ⟨p,x,p1,p2,p3⟩ := hR.stop (j := j) hj
    obtain ⟨s,es⟩ : ∃ s,c.stops[j] = s := ⟨_,rfl⟩
    rw [es] at p2 p3
    have hw := hR.lw s (es ▸ List.getElem_mem hj)
    have i3 : (j : Int) < c.stops.length := by omega
    have t1 : ∀ L,rd w0 (h ++ L) (p.add 0) = some x := fun L => rd_get (p2 L) rfl
    have t2 : ∀ L,rd w0 (h ++ L) (p.add 1) = some (.int .i64 s.turn) := fun L => rd_get (p2 L) rfl
    have no : stopB s = false → chainB c = false := fun e => by
      have : c.stops.all stopB = false := List.all_eq_false.2 ⟨_,List.getElem_mem hj,by rw [es]; simp [e]⟩
      simp [chainB,this]
    simp only [go_sem,l1,i3,p1,t1,t2]
    refine rvC_use (rwindows_c s.windows x p3.app hw).v ?_
    simp only [go_sem,p1,t1,t2]
    refine ⟨fun e1 => ?_,fun e1 => ?_⟩
    · refine rvC_use (rin_c _ _ _).v ?_
      simp only [go_sem]
      refine ⟨fun e2 => by rw [no (by rw [← st,e2,Bool.and_false])],fun e2 => ⟨(by unfold I64; omega),ih fun _ => by rw [es,← st,e1,e2]; rfl⟩⟩
    · rw [no (by rw [← st,e1]; rfl)]
  refine lp_step hmix L19_0_g [1,3] L19_0.eq_1 ?_
  have x1 : ¬ (c.stops.length : Int) < c.stops.length := by omega
  simp only [go_sem,l1,x1]
  have es : c.stops.all stopB = true := List.all_eq_true.2 fun x hx => by
    obtain ⟨i,hi,rfl⟩ := List.getElem_of_mem hx
    exact es i hi hi
  refine lp_all (fun j => [(1,.ptr (.own h.length 0)),(4,.int .i64 j)]) (fun j => ∀ hj : j < c.legs.length,legB c.legs[j] = true) c.legs.length rfl (fun j hj hi ih => ?_) (fun el => ?_)
  · refine lp_step hmix L19_1_g [1,4] L19_1.eq_1 ?_
    obtain ⟨p,p1,p2⟩ := hR.leg (j := j) hj
    obtain ⟨s,es⟩ : ∃ s,c.legs[j] = s := ⟨_,rfl⟩
    rw [es] at p2
    have i3 : (j : Int) < c.legs.length := by omega
    have t1 : ∀ L,rd w0 (h ++ L) (p.add 0) = some (.int .i64 s.low) := fun L => rd_get (p2 L) rfl
    have t2 : ∀ L,rd w0 (h ++ L) (p.add 1) = some (.int .i64 s.high) := fun L => rd_get (p2 L) rfl
    have no : legB s = false → chainB c = false := fun e => by
      have : c.legs.all legB = false := List.all_eq_false.2 ⟨_,List.getElem_mem hj,by rw [es]; simp [e]⟩
      simp [chainB,this]
    simp only [go_sem,l2,i3,p1,t1,t2]
    refine ⟨fun a1 => ⟨fun a2 => ⟨fun a3 => ?_,fun a3 => ⟨(by unfold I64; omega),ih fun _ => ?_⟩⟩,fun a2 => ?_⟩,fun a1 => ?_⟩
    rotate_left
    · rw [es]; simp [legB,spanB]; omega
    all_goals rw [no (by simp [legB,spanB]; omega)]
  refine lp_step hmix L19_1_g [1,4] L19_1.eq_1 ?_
  have x2 : ¬ (c.legs.length : Int) < c.legs.length := by omega
  simp only [go_sem,l1,l2,x2]
  have el : c.legs.all legB = true := List.all_eq_true.2 fun x hx => by
    obtain ⟨i,hi,rfl⟩ := List.getElem_of_mem hx
    exact el i hi hi
  refine rvC_use (rin_c _ _ _).v ?_
  simp only [go_sem,l1,l2]
  have hI : I64 ((c.stops.length : Int) - 1) := (by unfold I64; omega)
  refine ⟨fun e1 => ⟨hI,?_⟩,fun e1 => by simp [chainB,e1]⟩
  have : ((c.legs.length : Int) == (c.stops.length : Int) - 1) = decide ((c.legs.length : Int) = (c.stops.length : Int) - 1) := rfl
  simp [chainB,e1,es,el,this]
def briefB (c : ChainD) : Bool := c.stops.all (fun s => decide (s.windows.length ≤ 20)) && (decide (c.stops.length ≤ 20) && decide (c.legs.length ≤ 20))
theorem brief_c (c : ChainD) (v : ChainV) (hS : ChainS w0 h c v) (hl : c.stops.length ≤ 9223372036854775807) : DCall Try.prog w0 16 [.agg (chainC v)] h (.bool (briefB c)) h := by
  refine DCall_quiet hmix mf16_ok mf16_b mf16_g (Nat.le_of_ble_eq_true rfl) (by simp [AV.bdd,AV.bdds]) fun hb ha => ex_in ?_
  have o1 := hS.stops.one.1
  have o2 := hS.legs.one.1
  have l1 := hS.stops.use.1
  rw [stopRows_len hS] at l1
  have l2 := hS.legs.use.1
  simp only [List.length_map] at l2
  simp only [go_sem,mf16,o1,o2]
  refine lp_all (fun j => [(1,.ptr (.own h.length 0)),(3,.int .i64 j)]) (fun j => ∀ hj : j < c.stops.length,c.stops[j].windows.length ≤ 20) c.stops.length rfl (fun j hj hi ih => ?_) (fun es => ?_)
  · refine lp_step hmix L16_0_g [1,3] L16_0.eq_1 ?_
    obtain ⟨p,x,p1,p2,p3⟩ := hS.stop (j := j) hj
    have i3 : (j : Int) < c.stops.length := by omega
    have t1 : ∀ L,rd w0 (h ++ L) (p.add 0) = some x := fun L => rd_get (p2 L) rfl
    have l3 := p3.use.1
    simp only [List.length_map] at l3
    simp only [go_sem,l1,i3,p1,t1,l3]
    refine ⟨fun e => ?_,fun e => ⟨(by unfold I64; omega),ih fun _ => by omega⟩⟩
    have : c.stops.all (fun s => decide (s.windows.length ≤ 20)) = false := List.all_eq_false.2 ⟨_,List.getElem_mem hj,by simp; omega⟩
    simp [briefB,this]
  refine lp_step hmix L16_0_g [1,3] L16_0.eq_1 ?_
  have x1 : ¬ (c.stops.length : Int) < c.stops.length := by omega
  simp only [go_sem,l1,l2,x1]
  have es : c.stops.all (fun s => decide (s.windows.length ≤ 20)) = true := List.all_eq_true.2 fun x hx => by
    obtain ⟨i,hi,rfl⟩ := List.getElem_of_mem hx
    simpa using es i hi hi
  have h5 : ((c.legs.length : Int) ≤ 20) = (c.legs.length ≤ 20) := by simp only [eq_iff_iff]; omega
  refine ⟨fun e1 => ?_,fun e1 => ?_⟩
  · simp [briefB,es,h5,show c.stops.length ≤ 20 by omega]
  · simp [briefB,show ¬ c.stops.length ≤ 20 by omega]
theorem ChainS.R {c : ChainD} {v : ChainV} (s : ChainS w0 h c v) (hb : briefB c = true) : ChainR w0 h c v := by
  simp only [briefB,Bool.and_eq_true,decide_eq_true_eq,List.all_eq_true] at hb
  exact ⟨s,by omega,by omega,fun x hx => by have := hb.1 x hx; omega⟩
end Go.Proofs.Ab
namespace Go.Proofs.Ab
open Go Go.Proofs
variable {w0 : World} {h : Heap}
attribute [local irreducible] ACall ACallV AYield DCall DCallV rvC rdC lp rg dr ex un rv rd'
end Go.Proofs.Ab
namespace Go.Proofs.Ab
open Go Go.Proofs
variable {w0 : World} {h : Heap}
attribute [local irreducible] ACall ACallV AYield DCall DCallV rvC rdC lp rg dr ex un rv rd'
theorem Gro.base {g H : Heap} {es n : Nat} {ov : AV} {vs : List AV} (a : Gro g H es n ov vs) (s : HSub h g) : Gro h H es n ov vs := by
  refine ⟨s.trans a.sub,?_⟩
  rcases a.own with h1 | ⟨io,h1,h2⟩
  · exact .inl h1
  · exact .inr ⟨io,Nat.le_trans s.1 h1,h2⟩
end Go.Proofs.Ab
namespace Go.Proofs.Ab
open Go Go.Proofs
theorem nextD_snoc {l : List Span} {s : Span} {m : Int} (hl : ∀ x ∈ l,0 ≤ x.low) (hm : 0 ≤ m) : nextD (l ++ [s]) m = if nextD l m < 0 then (if m ≤ s.high then max m s.low else -1) else nextD l m := by
  induction l with
  | nil => simp [nextD]
  | cons a l ih =>
    have hi := ih fun x hx => hl x (List.mem_cons_of_mem _ hx)
    by_cases h : m ≤ a.high
    · have := hl a List.mem_cons_self
      have h5 : ¬ max m a.low < 0 := by omega
      simp only [List.cons_append,nextD,h,if_true,h5,if_false]
    · simp only [List.cons_append,nextD,h,if_false,hi]
theorem idxOf_snoc {p : Nat → Bool} {k : Nat} : idxOf p (List.range (k + 1)) = if idxOf p (List.range k) < 0 then (if p k then (k : Int) else -1) else idxOf p (List.range k) := by
  unfold idxOf
  rw [List.range_succ,List.findIdx?_append]
  cases e : (List.range k).findIdx? p with
  | none =>
    simp only [Option.none_or,List.findIdx?_cons,List.findIdx?_nil,List.length_range]
    cases hp : p k <;> simp
  | some i => simp; omega
structure SpI (r : Nat → Bool) (k : Nat) (out : List Span) : Prop where
  bd : ∀ s ∈ out,0 ≤ s.low ∧ s.low ≤ s.high ∧ s.high < k
  nx : ∀ m : Int,0 ≤ m → nextD out m = idxOf (fun (t : Nat) => decide (m ≤ (t : Int)) && r t) (List.range k)
  wi : ∀ m : Nat,within out m = (decide (m < k) && r m)
theorem SpI.nil {r : Nat → Bool} : SpI r 0 [] := ⟨by simp,fun m _ => rfl,fun m => by simp [within]⟩
theorem SpI.no {r : Nat → Bool} {k : Nat} {out : List Span} (a : SpI r k out) (h : r k = false) : SpI r (k + 1) out := by
  refine ⟨fun s hs => by have := a.bd s hs; omega,fun m hm => ?_,fun m => ?_⟩
  · rw [a.nx m hm,idxOf_snoc,h]
    simp only [Bool.and_false,Bool.false_eq_true,if_false]
    split
    · rename_i h1; unfold idxOf at h1 ⊢; split at h1
      · omega
      · rfl
    · rfl
  · rw [a.wi]
    by_cases hm : m = k
    · subst hm; simp [h]
    · have : decide (m < k) = decide (m < k + 1) := by rw [decide_eq_decide]; omega
      rw [this]
theorem within_snoc {l : List Span} {s : Span} {m : Int} : within (l ++ [s]) m = (within l m || inB m s.low s.high) := by simp [within]
theorem SpI.yes {r : Nat → Bool} {k : Nat} {out : List Span} (a : SpI r k out) (h : r k = true) : SpI r (k + 1) (addT out k) := by
  have hp : ∀ m : Int,(decide (m ≤ (k : Int)) && r k) = decide (m ≤ (k : Int)) := fun m => by rw [h,Bool.and_true]
  have hnew : (∀ init s,out = init ++ [s] → s.high ≠ (k : Int) - 1) → SpI r (k + 1) (out ++ [⟨k,k⟩]) := fun _ => by
    refine ⟨fun s hs => ?_,fun m hm => ?_,fun m => ?_⟩
    · rcases List.mem_append.1 hs with h1 | h1
      · have := a.bd s h1; omega
      · simp only [List.mem_singleton] at h1; subst h1; simp; omega
    · rw [nextD_snoc (fun x hx => (a.bd x hx).1) hm,a.nx m hm,idxOf_snoc,hp]
      simp only [decide_eq_true_eq]
      split
      · split
        · omega
        · rfl
      · rfl
    · rw [within_snoc,a.wi]
      simp only [inB]
      by_cases hm : m = k
      · subst hm; simp [h]
      · have e1 : decide (m < k) = decide (m < k + 1) := by rw [decide_eq_decide]; omega
        have e2 : (decide ((k : Int) ≤ (m : Int)) && decide ((m : Int) ≤ (k : Int))) = false := by
          rcases Nat.lt_or_ge m k with h1 | h1
          · rw [decide_eq_false (by omega)]; rfl
          · rw [decide_eq_false (show ¬ (m : Int) ≤ (k : Int) by omega),Bool.and_false]
        rw [e1,e2,Bool.or_false]
  rcases List.eq_nil_or_concat out with rfl | ⟨init,s,rfl⟩
  · exact hnew fun init s e => by simp at e
  · rw [List.concat_eq_append] at *
    by_cases hs : s.high = (k : Int) - 1
    · have e : addT (init ++ [s]) k = init ++ [⟨s.low,k⟩] := by simp [addT,hs]
      rw [e]
      have hb := a.bd s (by simp)
      have hi : ∀ x ∈ init,0 ≤ x.low := fun x hx => (a.bd x (by simp [hx])).1
      refine ⟨fun x hx => ?_,fun m hm => ?_,fun m => ?_⟩
      · rcases List.mem_append.1 hx with h1 | h1
        · have := a.bd x (by simp [h1]); omega
        · simp only [List.mem_singleton] at h1; subst h1; simp; omega
      · have o := a.nx m hm
        rw [nextD_snoc hi hm] at o ⊢
        rw [idxOf_snoc,hp,← o]
        simp only [decide_eq_true_eq]
        by_cases h1 : nextD init m < 0
        · by_cases h3 : m ≤ s.high
          · have h4 : m ≤ (k : Int) := by omega
            have h5 : ¬ max m s.low < 0 := by omega
            simp only [h1,h3,h4,h5,if_true,if_false]
          · have h5 : (-1 : Int) < 0 := by omega
            by_cases h4 : m ≤ (k : Int)
            · simp only [h1,h3,h4,h5,if_true,if_false]; omega
            · simp only [h1,h3,h4,h5,if_true,if_false]
        · simp only [h1,if_false]
      · have o := a.wi m
        rw [within_snoc] at o ⊢
        simp only [inB] at o ⊢
        by_cases hm : m = k
        · subst hm
          rw [decide_eq_true (show s.low ≤ (m : Int) by omega),decide_eq_true (Int.le_refl _),decide_eq_true (by omega),h]; simp
        · have e1 : decide (m < k + 1) = decide (m < k) := by rw [decide_eq_decide]; omega
          have e2 : decide ((m : Int) ≤ (k : Int)) = decide ((m : Int) ≤ s.high) := by rw [decide_eq_decide]; omega
          rw [e1,e2]; exact o
    · have e : addT (init ++ [s]) k = init ++ [s] ++ [⟨k,k⟩] := by simp [addT,hs]
      rw [e]
      exact hnew fun init' s' e' => by
        have := List.append_inj_right' e' rfl
        simp only [List.cons.injEq,and_true] at this
        subst this; exact hs
theorem SpI.all {r : Nat → Bool} : ∀ k,k ≤ 1441 → SpI r k (spL 0 [] ((rowB r).take k)) := by
  intro k hk
  induction k with
  | zero => exact SpI.nil
  | succ k ih =>
    have i := ih (by omega)
    have hl : (rowB r)[k]? = some (r k) := by rw [rowB,List.getElem?_map,List.getElem?_range (by omega)]; rfl
    rw [List.take_add_one,hl,Option.toList,spL_snoc,List.length_take,Nat.zero_add,Nat.min_eq_left (by simp [rowB]; omega)]
    cases e : r k with
    | true => rw [if_pos rfl]; exact i.yes e
    | false => exact i.no e
theorem spans_I (r : Nat → Bool) : SpI r 1441 (spansD (rowB r)) := by
  have := SpI.all (r := r) 1441 (Nat.le_refl _)
  rwa [List.take_of_length_le (by simp [rowB])] at this
theorem within_spans {r : Nat → Bool} {m : Nat} : within (spansD (rowB r)) m = (decide (m < 1441) && r m) := (spans_I r).wi m
end Go.Proofs.Ab
namespace Go.Proofs.Ab
open Go Go.Proofs
variable {w0 : World} {h : Heap}
attribute [local irreducible] ACall ACallV AYield DCall DCallV rvC rdC lp rg dr ex un rv rd'
def OwnSp (io : Nat) (G : Heap) (y : AV) (l : List Span) : Prop := (y = .nilS ∧ l = []) ∨ ∃ k,k ≠ io ∧ y = .sl (.own k 0) l.length 2 false ∧ G[k]? = some (some (.row (flatS l)))
theorem OwnSp.sl {io : Nat} {G : Heap} {y : AV} {l : List Span} (a : OwnSp io G y l) : Sl w0 G 2 y (l.map Span.c) := by
  rcases a with ⟨rfl,rfl⟩ | ⟨k,_,rfl,h2⟩
  · exact .inl ⟨rfl,rfl⟩
  · have := Sl_own (w0 := w0) (H := G) (full := false) (io := k) (rows := l.map Span.c) (es := 2) h2 (sp_len _)
    rwa [List.length_map] at this
theorem OwnSp.sub {io : Nat} {G H : Heap} {y : AV} {l : List Span} (a : OwnSp io G y l) (s : HSub G H) : OwnSp io H y l := by
  rcases a with h1 | ⟨k,h0,h1,h2⟩
  · exact .inl h1
  · exact .inr ⟨k,h0,h1,s.2 _ _ h2⟩
theorem OwnSp.set {io : Nat} {G : Heap} {y : AV} {l : List Span} {x : Option Blk} (a : OwnSp io G y l) : OwnSp io (G.set io x) y l := by
  rcases a with h1 | ⟨k,h0,h1,h2⟩
  · exact .inl h1
  · exact .inr ⟨k,h0,h1,by rw [List.getElem?_set_ne (Ne.symm h0)]; exact h2⟩
theorem spansD_len {r : Nat → Bool} : (spansD (rowB r)).length < 1000000 := by
  have h1 : ∀ k,k ≤ 1441 → (spL 0 [] ((rowB r).take k)).length ≤ k := by
    intro k hk
    induction k with
    | zero => simp [spL]
    | succ k ih =>
      have i := ih (by omega)
      have hl : (rowB r)[k]? = some (r k) := by rw [rowB,List.getElem?_map,List.getElem?_range (by omega)]; rfl
      rw [List.take_add_one,hl,Option.toList,spL_snoc]
      split
      · exact Nat.le_trans addT_len (by omega)
      · omega
  have h2 := h1 1441 (Nat.le_refl _)
  rw [List.take_of_length_le (by simp [rowB])] at h2
  exact Nat.lt_of_le_of_lt h2 (by decide)
end Go.Proofs.Ab
namespace Go.Proofs.Ab
open Go Go.Proofs
variable {w : World} {h : Heap} {cs : List Value}
def spanRw : Rw := .int (.int .nil)
def stopRw : Rw := .sl spanRw (.int .nil)
def chainRw : Rw := .sl stopRw (.sl spanRw .nil)
theorem span_of (g : Gd w spanRw cs) : ∃ s : Span,cs.map inj = s.c ∧ I64 s.low ∧ I64 s.high := by
  obtain ⟨a,_,rfl,h1,b,_,rfl,h2,rfl⟩ := g
  exact ⟨⟨a,b⟩,rfl,h1,h2⟩
theorem zip_stops (l : List (AV × StopD)) : stopRows (l.map Prod.fst) (l.map Prod.snd) = l.map fun x => stopC x.1 x.2 := by
  induction l with
  | nil => rfl
  | cons a l ih => simp only [stopRows,List.map_cons,List.zipWith_cons_cons] at ih ⊢; rw [ih]
theorem chain_of (g : Gd w chainRw cs) : ∃ (c : ChainD) (v : ChainV),cs.map inj = chainC v ∧ ChainS w h c v ∧ c.stops.length ≤ 9223372036854775807 := by
  obtain ⟨v0,_,rfl,g0,v1,_,rfl,g1,rfl⟩ := g
  obtain ⟨rows,h1,h2,h3⟩ := rows_of (h := h) g0
  obtain ⟨l,rfl,hl⟩ := rows_map (f := fun x : AV × StopD => stopC x.1 x.2) (p := fun x => Sl w h 2 x.1 (x.2.windows.map Span.c)) (rows := rows) fun c hc => by
    obtain ⟨cs,rfl,u,_,rfl,g2,n,_,rfl,_,rfl⟩ := h3 c hc
    obtain ⟨q,hq,_⟩ := slice_of (h := h) Span.c rfl g2 fun _ g => by
      obtain ⟨a,x,_⟩ := span_of g
      exact ⟨a,x⟩
    exact ⟨(inj u,⟨q,n⟩),rfl,hq⟩
  obtain ⟨l1,s1,_⟩ := slice_of (h := h) Span.c rfl g1 fun _ g => by
    obtain ⟨a,x,_⟩ := span_of g
    exact ⟨a,x⟩
  refine ⟨⟨l.map Prod.snd,l1⟩,⟨inj v0,inj v1,l.map Prod.fst⟩,rfl,⟨by simp,?_,?_,s1⟩,by simpa using h2⟩
  · rw [zip_stops]; exact h1
  · intro j x s hx hs
    simp only [List.getElem?_map,Option.map_eq_some_iff] at hx hs
    obtain ⟨a,a1,rfl⟩ := hx
    obtain ⟨b,b1,rfl⟩ := hs
    rw [a1] at b1; cases b1
    exact hl _ (List.mem_of_getElem? a1)
theorem int_of {v : Value} (g : Gd w (.int .nil) [v]) : ∃ n : Int,inj v = .int .i64 n ∧ I64 n := by
  obtain ⟨n,_,e,h,rfl⟩ := g
  cases e; exact ⟨n,rfl,h⟩
end Go.Proofs.Ab
namespace Go.Proofs.Ab
open Go Go.Proofs
variable {w0 : World} {h : Heap}
attribute [local irreducible] ACall ACallV AYield DCall DCallV rvC rdC lp rg dr ex un rv rd'
end Go.Proofs.Ab
namespace Go.Proofs.Ab
open Go Go.Proofs
variable {w0 : World} {h : Heap}
attribute [local irreducible] ACall ACallV AYield DCall DCallV rvC rdC lp rg dr ex un rv rd'
theorem departD_at {c : ChainD} {i : Nat} (hi : i < c.legs.length) : ∀ (h : i < (departD c).length),(departD c)[i] = spansD (rowB (goodT c i)) := fun h => departD_get h
end Go.Proofs.Ab
namespace Go.Proofs.Ab
open Go Go.Proofs
theorem firstBad_neg {go : Int → Bool} {m : Int} : ∀ {n : Nat} {d : Int},0 ≤ d → firstBad go m n d < 0 → ∀ x,d ≤ x → x < d + n → go (m + x) = true
  | 0,d,_,_,x,h1,h2 => by omega
  | n + 1,d,hd,h,x,h1,h2 => by
    rw [firstBad] at h
    split at h
    · rename_i e
      by_cases hx : x = d
      · rw [hx]; exact e
      · exact firstBad_neg (by omega) h x (by omega) (by omega)
    · omega
theorem fromD_spec {r : Nat → Bool} {m : Int} (h : 0 ≤ fromD r m) : m ≤ fromD r m ∧ fromD r m ≤ 1440 ∧ r (fromD r m).toNat = true := by
  unfold fromD idxOf at h ⊢
  split at h
  · rename_i i e
    rw [List.findIdx?_eq_some_iff_getElem] at e
    obtain ⟨hi,hp,_⟩ := e
    rw [List.length_range] at hi
    rw [List.getElem_range,Bool.and_eq_true,decide_eq_true_eq] at hp
    exact ⟨hp.1,by omega,by rw [Int.toNat_natCast]; exact hp.2⟩
  · omega
end Go.Proofs.Ab
namespace Go.Proofs.Ab
open Go Go.Proofs
variable {w0 : World} {h : Heap}
attribute [local irreducible] ACall ACallV AYield DCall DCallV rvC rdC lp rg dr ex un rv rd'
end Go.Proofs.Ab
namespace Go.Proofs.Ab
open Go Go.Proofs
def widerS (sh : Int) (s : StopD) : StopD := ⟨s.windows,s.turn - min sh s.turn⟩
def widerL (lo hi : Int) (s : Span) : Span := ⟨s.low + Int.tdiv ((s.high - s.low) * lo) 100,s.low + Int.tdiv ((s.high - s.low) * hi) 100⟩
def widerD (c : ChainD) (lo hi sh : Int) : ChainD := ⟨c.stops.map (widerS sh),c.legs.map (widerL lo hi)⟩
theorem firstBad_all {go : Int → Bool} {m : Int} : ∀ {n : Nat} {d : Int},(∀ x,d ≤ x → x < d + n → go (m + x) = true) → firstBad go m n d < 0
  | 0,_,_ => by simp [firstBad]
  | n + 1,d,h => by
    rw [firstBad,if_pos (h d (Int.le_refl _) (by omega))]
    exact firstBad_all fun x h1 h2 => h x (by omega) (by omega)
theorem fromD_some {r : Nat → Bool} {m : Int} {t : Nat} (ht : t < 1441) (hm : m ≤ t) (hr : r t = true) : 0 ≤ fromD r m := by
  have h1 := idxOf_ge (fun (t : Nat) => decide (m ≤ (t : Int)) && r t) (List.range 1441)
  have h2 : (List.range 1441).any (fun (t : Nat) => decide (m ≤ (t : Int)) && r t) = true := List.any_eq_true.2 ⟨t,List.mem_range.2 ht,by rw [decide_eq_true hm,hr]; rfl⟩
  rw [h2] at h1
  exact of_decide_eq_true h1
theorem part_le {a p : Int} (ha : 0 ≤ a) (hp : 0 ≤ p) (h : p ≤ 100) : 0 ≤ Int.tdiv (a * p) 100 ∧ Int.tdiv (a * p) 100 ≤ a := by
  rw [Int.tdiv_eq_ediv_of_nonneg (Int.mul_nonneg ha hp)]
  have h1 : a * p ≤ a * 100 := Int.mul_le_mul_of_nonneg_left h ha
  have h2 : 0 ≤ a * p := Int.mul_nonneg ha hp
  constructor <;> omega
theorem part_mono {a p q : Int} (ha : 0 ≤ a) (hp : 0 ≤ p) (h : p ≤ q) : Int.tdiv (a * p) 100 ≤ Int.tdiv (a * q) 100 := by
  rw [Int.tdiv_eq_ediv_of_nonneg (Int.mul_nonneg ha hp),Int.tdiv_eq_ediv_of_nonneg (Int.mul_nonneg ha (by omega))]
  have h1 : a * p ≤ a * q := Int.mul_le_mul_of_nonneg_left h ha
  omega
section
variable {c : ChainD} {lo hi sh : Int}
theorem wider_len : (widerD c lo hi sh).legs.length = c.legs.length := by simp [widerD]
theorem wider_stop {i : Nat} (hi' : i < c.stops.length) : stopD (widerD c lo hi sh) i = widerS sh (stopD c i) := by
  rw [stopD,stopD,getD_at hi',getD_at (by simp [widerD]; exact hi')]; simp [widerD]
theorem wider_leg {i : Nat} (hi' : i < c.legs.length) : legD (widerD c lo hi sh) i = widerL lo hi (legD c i) := by
  rw [legD,legD,getD_at hi',getD_at (by simp [widerD]; exact hi')]; simp [widerD]
theorem wider_b (hB : chainB c = true) (h0 : 0 ≤ lo) (h1 : lo ≤ hi) (h2 : hi ≤ 100) (h3 : 0 ≤ sh) : chainB (widerD c lo hi sh) = true := by
  have bs := chainB_spec hB
  simp only [chainB,inB,Bool.and_eq_true,decide_eq_true_eq,List.all_eq_true] at hB ⊢
  refine ⟨by simp only [widerD,List.length_map]; exact hB.1,by simp only [widerD,List.length_map]; exact hB.2.1,fun s hs => ?_,fun s hs => ?_⟩
  · obtain ⟨q,hq,rfl⟩ := List.mem_map.1 hs
    have := bs.2.2.2.1 q hq
    have h5 : 0 ≤ q.turn - min sh q.turn ∧ q.turn - min sh q.turn ≤ 300 := by omega
    simp [stopB,widerS,inB,this.1,this.2.2.2,h5.1,h5.2]; omega
  · obtain ⟨q,hq,rfl⟩ := List.mem_map.1 hs
    have := bs.2.2.2.2 q hq
    have e1 := part_le (a := q.high - q.low) (p := lo) (by omega) h0 (by omega)
    have e2 := part_le (a := q.high - q.low) (p := hi) (by omega) (by omega) h2
    have e3 := part_mono (a := q.high - q.low) (p := lo) (q := hi) (by omega) h0 h1
    have h5 : 0 ≤ q.low + Int.tdiv ((q.high - q.low) * lo) 100 ∧ q.low + Int.tdiv ((q.high - q.low) * lo) 100 ≤ q.low + Int.tdiv ((q.high - q.low) * hi) 100 ∧ q.low + Int.tdiv ((q.high - q.low) * hi) 100 ≤ 300 := ⟨by omega,by omega,by omega⟩
    simp only [legB,spanB,widerL]
    rw [Bool.and_eq_true,Bool.and_eq_true]
    exact ⟨decide_eq_true h5.1,decide_eq_true h5.2.1,decide_eq_true h5.2.2⟩
theorem wider_good (hB : chainB c = true) (h0 : 0 ≤ lo) (h1 : lo ≤ hi) (h2 : hi ≤ 100) (h3 : 0 ≤ sh) : ∀ (k t : Nat),k ≤ c.legs.length → gdr c k t = true → gdr (widerD c lo hi sh) k t = true := by
  have bs := chainB_spec hB
  intro k
  induction k with
  | zero => intro t _ h; exact h
  | succ k ih =>
    intro t hk h
    rw [gdr,Bool.and_eq_true,decide_eq_true_eq] at h ⊢
    rw [wider_len]
    obtain ⟨i,ei⟩ : ∃ i,i = c.legs.length - (k + 1) := ⟨_,rfl⟩
    rw [← ei] at h ⊢
    have hi1 : i < c.legs.length := by omega
    have hl := bs.2.2.2.2 (c.legs[i]) (List.getElem_mem hi1)
    have gl : legD c i = c.legs[i] := by rw [legD,getD_at hi1]
    obtain ⟨g,eg⟩ : ∃ g,g = c.legs[i] := ⟨_,rfl⟩
    rw [← eg] at hl gl
    have e1 := part_le (a := g.high - g.low) (p := lo) (by omega) h0 (by omega)
    have e2 := part_le (a := g.high - g.low) (p := hi) (by omega) (by omega) h2
    refine ⟨by rw [wider_stop (by omega)]; exact h.1,?_⟩
    have h4 := h.2
    rw [failsD,gl] at h4
    rw [failsD,wider_leg hi1,gl]
    refine firstBad_all fun x x1 x2 => ?_
    simp only [widerL] at x1 x2
    have e3 := part_mono (a := g.high - g.low) (p := lo) (q := hi) (by omega) h0 h1
    have hm : (g.low + Int.tdiv ((g.high - g.low) * hi) 100 - (g.low + Int.tdiv ((g.high - g.low) * lo) 100) + 1).toNat ≤ 1000 := by omega
    have h5 := firstBad_neg hl.1 h4 x (by omega) (by omega)
    unfold goesD at h5 ⊢
    rw [wider_len]
    change (within (stopD c (i + 1)).windows _ && (_ || decide (0 ≤ fromD _ (_ + (stopD c (i + 1)).turn)))) = true at h5
    change (within (stopD (widerD c lo hi sh) (i + 1)).windows _ && (_ || decide (0 ≤ fromD _ (_ + (stopD (widerD c lo hi sh) (i + 1)).turn)))) = true
    rw [wider_stop (by omega)]
    simp only [Bool.and_eq_true,Bool.or_eq_true,decide_eq_true_eq,widerS] at h5 ⊢
    refine ⟨h5.1,h5.2.imp id fun h6 => ?_⟩
    obtain ⟨q1,q2,q3⟩ := fromD_spec h6
    have ht : 0 ≤ (stopD c (i + 1)).turn := by rw [stopD,getD_at (by omega)]; exact (bs.2.2.2.1 _ (List.getElem_mem (by omega))).2.1
    obtain ⟨F,eF⟩ : ∃ F,F = fromD (gdr c k) ((t : Int) + x + (stopD c (i + 1)).turn) := ⟨_,rfl⟩
    rw [← eF] at h6 q1 q2 q3
    have hF : (F.toNat : Int) = F := by omega
    have hlt : F.toNat < 1441 := by omega
    refine decide_eq_true (fromD_some (t := F.toNat) hlt ?_ (ih _ (by omega) q3))
    rw [hF]; omega
end
end Go.Proofs.Ab
namespace Go.Proofs.Ab
open Go Go.Proofs
variable {w0 : World} {h : Heap}
attribute [local irreducible] ACall ACallV AYield DCall DCallV rvC rdC lp rg dr ex un rv rd'
theorem wider_goodT {c : ChainD} {lo hi sh : Int} (hB : chainB c = true) (h0 : 0 ≤ lo) (h1 : lo ≤ hi) (h2 : hi ≤ 100) (h3 : 0 ≤ sh) {i t : Nat} (e : goodT c i t = true) : goodT (widerD c lo hi sh) i t = true := by
  rw [goodT] at e ⊢
  rw [wider_len]
  exact wider_good hB h0 h1 h2 h3 _ t (Nat.sub_le _ _) e
theorem within_dep2 {c : ChainD} {i : Nat} {m : Int} (hm : 0 ≤ m ∧ m ≤ 1440) : within (spansD (rowB (goodT c i))) m = goodT c i m.toNat := by
  obtain ⟨k,rfl⟩ : ∃ k : Nat,m = k := ⟨m.toNat,by omega⟩
  rw [within_spans,decide_eq_true (by omega)]; simp
theorem Gro.setN {K H : Heap} {es n i : Nat} {ov : AV} {vs : List AV} {b : Option Blk} (g : Gro K H es n ov vs) (hi : K[i]? = some none) : Gro K (H.set i b) es n ov vs := by
  have hlt := get_some_lt hi
  refine ⟨⟨by rw [List.length_set]; exact g.sub.1,fun j c e => ?_⟩,?_⟩
  · rw [List.getElem?_set_ne (fun e2 => by subst e2; rw [hi] at e; cases e)]; exact g.sub.2 j c e
  · rcases g.own with h1 | ⟨io,h1,h2,h3,h4,h5⟩
    · exact .inl h1
    · exact .inr ⟨io,h1,h2,h3,by rw [List.getElem?_set_ne (by omega)]; exact h4,h5⟩
theorem Gro.at1 {K H : Heap} {es n i : Nat} {ov : AV} {vs : List AV} {b : Blk} (g : Gro K H es n ov vs) (hi : H[i]? = some (some b)) : Gro (K.set i (some b)) H es n ov vs := by
  refine ⟨⟨by rw [List.length_set]; exact g.sub.1,fun j c e => ?_⟩,?_⟩
  · by_cases e2 : i = j
    · subst e2
      rw [List.getElem?_set_self' ] at e
      cases e3 : K[i]? with
      | none => rw [e3] at e; cases e
      | some z => rw [e3] at e; cases e; exact hi
    · rw [List.getElem?_set_ne e2] at e; exact g.sub.2 j c e
  · rw [List.length_set]; exact g.own
theorem Gro.unat {K H : Heap} {es n i : Nat} {ov : AV} {vs : List AV} {b : Blk} (g : Gro (K.set i (some b)) H es n ov vs) (hi : K[i]? = some none) : Gro K H es n ov vs ∧ H[i]? = some (some b) := by
  have hlt := get_some_lt hi
  refine ⟨⟨⟨by have := g.sub.1; rwa [List.length_set] at this,fun j c e => ?_⟩,?_⟩,g.sub.2 _ _ (List.getElem?_set_self hlt)⟩
  · refine g.sub.2 j c ?_
    rw [List.getElem?_set_ne (fun e2 => by subst e2; rw [hi] at e; cases e)]; exact e
  · have := g.own
    rwa [List.length_set] at this
theorem HopWider_c (c : ChainD) (v : ChainV) (lo hi sh m : Int) (hS : ChainS w0 h c v) (hl : c.stops.length ≤ 9223372036854775807) : DCall Try.prog w0 7 [.agg (chainC v),.int .i64 lo,.int .i64 hi,.int .i64 sh,.int .i64 m] h (.bool true) h := by
  refine DCall_forget trivial (ACall_sx hmix mf7_ok mf7_b mf7_g (Nat.le_of_ble_eq_true rfl) fun hb ha => ex_in ?_)
  have o1 := hS.stops.one.1
  have o2 := hS.legs.one.1
  have l1 := hS.stops.use.1
  rw [stopRows_len hS] at l1
  have l2 := hS.legs.use.1
  simp only [List.length_map] at l2
  obtain ⟨H0,eH0⟩ : ∃ H0 : Heap,H0 = h ++ [some (.row [v.sv,v.lv])] := ⟨_,rfl⟩
  have s0 : HSub h H0 := eH0 ▸ HSub.refl.app
  have g0 : H0[h.length]? = some (some (.row [v.sv,v.lv])) := by rw [eH0]; simp
  have b0 : ∀ L,(H0 ++ L)[h.length]? = some (some (.row [v.sv,v.lv])) := fun L => getElem?_app_left g0
  simp only [go_sem,mf7,o1,o2]
  rw [← eH0]
  have hS0 : ChainS w0 H0 c v := hS.sub s0
  refine rvC_use (brief_c c v hS0 hl).v ?_
  cases e1 : briefB c with
  | false =>
    simp only [go_sem]
    refine rvC_use known_c.v ?_
    simp only [go_sem]
    exact s0
  | true =>
  have hR := hS.R e1
  have hR0 := hR.sub s0
  simp only [go_sem,g0,b0,o1,o2]
  refine rvC_use (rchain_c c v hR0).v ?_
  cases hB : chainB c with
  | false =>
    simp only [go_sem]
    refine rvC_use known_c.v ?_
    simp only [go_sem]
    exact s0
  | true =>
  have kn : ∀ b,b = true → True := fun _ _ => trivial
  by_cases y1 : lo < 0
  · simp only [go_sem,y1]
    refine rvC_use known_c.v ?_
    simp only [go_sem]
    exact s0
  by_cases y2 : hi < lo
  · simp only [go_sem,y1,y2]
    refine rvC_use known_c.v ?_
    simp only [go_sem]
    exact s0
  by_cases y3 : 100 < hi
  · simp only [go_sem,y1,y2,y3]
    refine rvC_use known_c.v ?_
    simp only [go_sem]
    exact s0
  by_cases y4 : sh < 0
  · simp only [go_sem,y1,y2,y3,y4]
    refine rvC_use known_c.v ?_
    simp only [go_sem]
    exact s0
  by_cases y5 : m < 0
  · simp only [go_sem,y1,y2,y3,y4,y5]
    refine rvC_use known_c.v ?_
    simp only [go_sem]
    exact s0
  by_cases y6 : 1440 < m
  · simp only [go_sem,y1,y2,y3,y4,y5,y6]
    refine rvC_use known_c.v ?_
    simp only [go_sem]
    exact s0
  have bs := chainB_spec hB
  have hw0 : 0 ≤ lo := by omega
  have hw1 : lo ≤ hi := by omega
  have hw2 : hi ≤ 100 := by omega
  have hw3 : 0 ≤ sh := by omega
  have hlen0 : H0.length = h.length + 1 := by rw [eH0]; simp
  obtain ⟨bx,ebx⟩ : ∃ bx,bx = H0.length := ⟨_,rfl⟩
  obtain ⟨K0,eK0⟩ : ∃ K0 : Heap,K0 = H0 ++ [none] := ⟨_,rfl⟩
  have sK : HSub H0 K0 := eK0 ▸ HSub.refl.app
  have xK : K0[bx]? = some none := by rw [eK0,ebx]; simp
  have gK : K0[h.length]? = some (some (.row [v.sv,v.lv])) := sK.2 _ _ g0
  have hRK := hR0.sub sK
  simp only [go_sem,y1,y2,y3,y4,y5,y6,g0,b0,o1,o2]
  rw [← ebx]
  refine lp_ind (S := Nat × Heap × AV × List AV) (F := fun s => [(1,.int .i64 lo),(2,.int .i64 hi),(3,.int .i64 sh),(4,.int .i64 m),(5,.ptr (.own h.length 0)),(11,.ptr (.own bx 0)),(12,.int .i64 s.1)]) (H := fun s => s.2.1) (meas := fun s => c.stops.length - s.1)
    (Inv := fun s => s.1 ≤ c.stops.length ∧ s.2.2.2.length = s.1 ∧ (∀ (k : Nat) x y,s.2.2.2[k]? = some x → c.stops[k]? = some y → Sl w0 K0 2 x (y.windows.map Span.c)) ∧ Gro K0 s.2.1 2 s.1 s.2.2.1 (stopRows s.2.2.2 ((c.stops.take s.1).map (widerS sh))).flatten ∧ s.2.1[bx]? = some (some (.row [s.2.2.1,.nilS]))) (0,H0 ++ [some (.row [.nilS,.nilS])],.nilS,[]) ⟨by simp,by simp,fun k x y e => by simp at e,Gro.nil ?_,by rw [ebx]; simp⟩ rfl rfl ?_
  · rw [eK0]
    refine ⟨by simp,fun i b e => ?_⟩
    rcases Nat.lt_or_ge i H0.length with hi | hi
    · rw [List.getElem?_append_left hi] at e ⊢; exact e
    · rw [List.getElem?_append_right hi] at e
      have := get_some_lt e
      rw [List.length_singleton] at this
      rw [show i - H0.length = 0 by omega] at e
      simp at e
  rintro ⟨j,G,ov,ws⟩ ⟨hj,ews,hws,gr,gx⟩ ih
  simp only at hj ews hws gr gx ih
  refine lp_step hmix L7_0_g [1,2,3,4,5,11,12] L7_0.eq_1 ?_
  have gG := gr.sub.2 _ _ gK
  have bG : ∀ L,(G ++ L)[h.length]? = some (some (.row [v.sv,v.lv])) := fun L => getElem?_app_left gG
  have bxG : ∀ L,(G ++ L)[bx]? = some (some (.row [ov,.nilS])) := fun L => getElem?_app_left gx
  have hRG := hRK.sub gr.sub
  rcases Nat.lt_or_ge j c.stops.length with hjl | hjl
  · have f0 : (j : Int) < c.stops.length := by omega
    obtain ⟨p,x,p1,p2K,p3K⟩ := hRK.stop hjl
    have p2 : ∀ L,rdn w0 (G ++ L) p 2 = some (stopC x c.stops[j]) := fun L => (gr.sub.app (L := L)).rdn (by simpa using p2K [])
    have p3 := p3K.sub gr.sub
    simp only [go_sem,gG,bG,l1,f0]
    refine dr_cut hmix O7_0 [] D7_0_ab D7_0a.eq_1 D7_0b.eq_1 O7_0_ok O7_0_ok2 O7_0_tot (by simp [D7_0b]) (by simp) (by simp) ?_
    have t0 : ∀ L,rd w0 (G ++ L) (p.add 0) = some x := fun L => rd_get (p2 L) rfl
    have t1 : ∀ L,rd w0 (G ++ L) (p.add 1) = some (.int .i64 c.stops[j].turn) := fun L => rd_get (p2 L) rfl
    have t0' := t0 []
    have t1' := t1 []
    rw [List.append_nil] at t0' t1'
    have m1 : List.set G G.length none = G := List.set_eq_of_length_le (Nat.le_refl _)
    have cx := p3.one.2
    have ox := p3.one.1
    have hsj := bs.2.2.2.1 c.stops[j] (List.getElem_mem hjl)
    simp only [go_sem,O7_0,m1,gG,bG,gx,bxG,p1,t0,t1,t0',t1',cx,ox]
    refine ⟨(by unfold I64; omega),?_⟩
    obtain ⟨tn,etn⟩ : ∃ tn,tn = c.stops[j].turn - min sh c.stops[j].turn := ⟨_,rfl⟩
    rw [← etn]
    have gb := (gr.at1 gx).app (L := [some (.row [x,.int .i64 tn])])
    obtain ⟨G2,eG,gG2⟩ := gb.more (w0 := w0) (b := 32) (k := G.length) (x := [x,.int .i64 tn]) (f := true) (by simp) rfl (by simp only [List.all_cons,ox]; rfl) (by omega) (by omega)
    obtain ⟨gG3,gx3⟩ := gG2.unat xK
    have gx3' : ∀ L,(G2 ++ L)[bx]? = some (some (.row [ov,.nilS])) := fun L => getElem?_app_left gx3
    simp only [go_sem,eG,gx3,gx3']
    refine ⟨(by unfold I64; omega),?_⟩
    have hfl : (stopRows (ws ++ [x]) ((c.stops.take (j + 1)).map (widerS sh))).flatten = (stopRows ws ((c.stops.take j).map (widerS sh))).flatten ++ [x,.int .i64 tn] := by
      have e3 : ((c.stops.take j).map (widerS sh)).length = ws.length := by simp; omega
      rw [List.take_add_one,List.getElem?_eq_getElem hjl,Option.toList,List.map_append,stopRows,stopRows,List.zipWith_append e3.symm,List.flatten_append]
      simp [stopC,widerS,etn]
    have := ih (j + 1,G2.set bx (some (.row [.sl (.own (G.length + 1) 0) (j + 1) 2 false,.nilS])),.sl (.own (G.length + 1) 0) (j + 1) 2 false,ws ++ [x]) ⟨by simp only; omega,by simp [ews],fun k y z e1 e2 => ?_,by simp only; rw [hfl]; exact (by simpa using gG3.setN xK),List.getElem?_set_self (by have := get_lt gx3; omega)⟩ (by simp only; omega)
    · simpa using this
    · simp only at e1
      rcases Nat.lt_or_ge k j with hk | hk
      · rw [List.getElem?_append_left (by omega)] at e1; exact hws k y z e1 e2
      · have : k < j + 1 := by have := get_lt e1; simp at this; omega
        obtain rfl : k = j := by omega
        rw [List.getElem?_append_right (by omega),ews] at e1
        simp at e1
        subst e1
        rw [List.getElem?_eq_getElem hjl] at e2
        cases e2; exact p3K
  · have f0 : ¬ (j : Int) < c.stops.length := by omega
    obtain rfl : j = c.stops.length := by omega
    simp only [go_sem,gG,bG,l1,f0]
    obtain ⟨K1,eK1⟩ : ∃ K1 : Heap,K1 = G.set bx none := ⟨_,rfl⟩
    have gr1 : Gro K0 K1 2 c.stops.length ov (stopRows ws ((c.stops.take c.stops.length).map (widerS sh))).flatten := by rw [eK1]; exact gr.setN xK
    have xK1 : K1[bx]? = some none := by rw [eK1,List.getElem?_set_self (get_lt gx)]
    have gK1 : K1[h.length]? = some (some (.row [v.sv,v.lv])) := gr1.sub.2 _ _ gK
    have hRK1 := hRK.sub gr1.sub
    rw [List.take_length] at gr1
    have hst : Sl w0 K1 2 ov (stopRows ws (c.stops.map (widerS sh))) := gr1.sl (fun q hq => by
      obtain ⟨k,hk,rfl⟩ := List.mem_iff_getElem.1 hq
      simp [stopRows,stopC]) (by simp [stopRows,ews]) (by omega)
    refine lp_ind (S := Nat × Heap × AV) (F := fun s => [(1,.int .i64 lo),(2,.int .i64 hi),(4,.int .i64 m),(5,.ptr (.own h.length 0)),(11,.ptr (.own bx 0)),(13,.int .i64 s.1)]) (H := fun s => s.2.1) (meas := fun s => c.legs.length - s.1)
      (Inv := fun s => s.1 ≤ c.legs.length ∧ Gro K1 s.2.1 2 s.1 s.2.2 (((c.legs.take s.1).map (widerL lo hi)).map Span.c).flatten ∧ s.2.1[bx]? = some (some (.row [ov,s.2.2]))) (0,G,.nilS) ⟨by simp,Gro.nil ?_,gx⟩ rfl rfl ?_
    · rw [eK1]
      refine ⟨by simp,fun i b e => ?_⟩
      by_cases e2 : bx = i
      · subst e2; rw [List.getElem?_set_self (get_lt gx)] at e; cases e
      · rwa [List.getElem?_set_ne e2] at e
    clear ih gx bxG gr gG bG
    rintro ⟨j,H,lv⟩ ⟨hj,gr,gx⟩ ih
    simp only at hj gr gx ih
    refine lp_step hmix L7_1_g [1,2,4,5,11,13] L7_1.eq_1 ?_
    have gH := gr.sub.2 _ _ gK1
    have bH : ∀ L,(H ++ L)[h.length]? = some (some (.row [v.sv,v.lv])) := fun L => getElem?_app_left gH
    have bxH : ∀ L,(H ++ L)[bx]? = some (some (.row [ov,lv])) := fun L => getElem?_app_left gx
    have hRH := hRK1.sub gr.sub
    rcases Nat.lt_or_ge j c.legs.length with hjl | hjl
    · have f1 : (j : Int) < c.legs.length := by omega
      obtain ⟨p,p1,p2⟩ := hRH.leg hjl
      have p2' := p2 []
      rw [List.append_nil] at p2'
      obtain ⟨g,eg⟩ : ∃ g,g = c.legs[j] := ⟨_,rfl⟩
      rw [← eg] at p2 p2'
      have hg := bs.2.2.2.2 g (eg ▸ List.getElem_mem hjl)
      have og : g.c.all one = true := rfl
      have mul_b : ∀ q : Int,0 ≤ q → q ≤ 100 → 0 ≤ (g.high - g.low) * q ∧ (g.high - g.low) * q ≤ 30000 := fun q q0 q1 => by
        have h1 : (g.high - g.low) * q ≤ (g.high - g.low) * 100 := Int.mul_le_mul_of_nonneg_left q1 (by omega)
        have h2 : 0 ≤ (g.high - g.low) * q := Int.mul_nonneg (by omega) q0
        omega
      have m1 := mul_b lo hw0 (by omega)
      have m2 := mul_b hi (by omega) hw2
      have q1 := part_le (a := g.high - g.low) (p := lo) (by omega) hw0 (by omega)
      have q2 := part_le (a := g.high - g.low) (p := hi) (by omega) (by omega) hw2
      simp only [go_sem,gH,bH,bxH,gx,l2,f1,p1,p2,p2',Span.c,og]
      refine ⟨(by unfold I64; omega),(by unfold I64; omega),(by unfold I64; omega),(by unfold I64; omega),(by unfold I64; omega),(by unfold I64; omega),(by unfold I64; omega),(by unfold I64; omega),?_⟩
      obtain ⟨a,ea⟩ : ∃ a,a = g.low + ((g.high - g.low) * lo).tdiv 100 := ⟨_,rfl⟩
      obtain ⟨b,eb⟩ : ∃ b,b = g.low + ((g.high - g.low) * hi).tdiv 100 := ⟨_,rfl⟩
      rw [← ea,← eb]
      obtain ⟨G2,eG,gG2⟩ := ((gr.at1 gx).app (L := [some (.row [.int .i64 g.low,.int .i64 g.high]),some (.row [.int .i64 a,.int .i64 b])])).more (w0 := w0) (b := 16) (k := H.length + 1) (x := [.int .i64 a,.int .i64 b]) (f := true) (by simp) rfl rfl (by omega) (by have := hR.ll; omega)
      obtain ⟨gG3,gx3⟩ := gG2.unat xK1
      have gx3' : ∀ L,(G2 ++ L)[bx]? = some (some (.row [ov,lv])) := fun L => getElem?_app_left gx3
      simp only [go_sem,eG,gx3,gx3']
      refine ⟨(by unfold I64; omega),?_⟩
      have hfl : (((c.legs.take (j + 1)).map (widerL lo hi)).map Span.c).flatten = (((c.legs.take j).map (widerL lo hi)).map Span.c).flatten ++ [.int .i64 a,.int .i64 b] := by
        rw [List.take_add_one,List.getElem?_eq_getElem hjl,Option.toList,List.map_append,List.map_append,List.flatten_append]
        simp [Span.c,widerL,ea,eb,eg]
      have := ih (j + 1,G2.set bx (some (.row [ov,.sl (.own (H.length + 2) 0) (j + 1) 2 false])),.sl (.own (H.length + 2) 0) (j + 1) 2 false) ⟨by simp only; omega,by simp only; rw [hfl]; exact (by simpa using gG3.setN xK1),List.getElem?_set_self (by have := get_lt gx3; omega)⟩ (by simp only; omega)
      simpa using this
    · have f1 : ¬ (j : Int) < c.legs.length := by omega
      obtain rfl : j = c.legs.length := by omega
      have hX : ChainR w0 H (widerD c lo hi sh) ⟨ov,lv,ws⟩ := by
        refine ⟨⟨by simp [widerD,ews],hst.sub gr.sub,fun k x s e1 e2 => ?_,?_⟩,by simpa [widerD] using hR.ls,by simpa [widerD] using hR.ll,fun s hs => ?_⟩
        · simp only [widerD,List.getElem?_map,Option.map_eq_some_iff] at e2
          obtain ⟨s',e3,rfl⟩ := e2
          exact (hws k x s' e1 e3).sub (gr1.sub.trans gr.sub)
        · rw [List.take_length] at gr
          exact gr.sl (fun q hq => by obtain ⟨z,_,rfl⟩ := List.mem_map.1 hq; rfl) (by simp) (by omega)
        · obtain ⟨s',hs',rfl⟩ := List.mem_map.1 hs
          exact hR.lw s' hs'
      have ovx := hX.stops.one.1
      have lvx := hX.legs.one.1
      simp only at ovx lvx
      simp only [go_sem,gH,bH,l2,f1,o1,o2]
      refine rvC_post (ACall.vc (first := []) (args := [.agg (chainC v)]) (Depart_c c v hRH)) ?_
      rintro y H1 ⟨s1,hD⟩
      rw [if_pos hB] at hD
      obtain ⟨gv,rfl,hg⟩ := hD
      have gx1 := s1.2 _ _ gx
      have bx1 : ∀ L,(H1 ++ L)[bx]? = some (some (.row [ov,lv])) := fun L => getElem?_app_left gx1
      simp only [go_sem,gx1,bx1,ovx,lvx]
      refine rvC_post (ACall.vc (first := []) (args := [.agg (chainC ⟨ov,lv,ws⟩)]) (Depart_c (widerD c lo hi sh) ⟨ov,lv,ws⟩ (hX.sub s1))) ?_
      rintro y H2 ⟨s2,hD⟩
      rw [if_pos (wider_b hB hw0 hw1 hw2 hw3)] at hD
      obtain ⟨gv2,rfl,hg2⟩ := hD
      have hg1 := hg.sub s2
      have sub2 : HSub h H2 := ((((s0.trans sK).trans gr1.sub).trans gr.sub).trans s1).trans s2
      have ln1 : lenV gv = some (.int .i64 (c.legs.length : Int)) := by rw [← departD_len (c := c)]; exact NS.len hg
      have ln2 : lenV gv2 = some (.int .i64 (c.legs.length : Int)) := by rw [← wider_len (lo := lo) (hi := hi) (sh := sh),← departD_len (c := widerD c lo hi sh)]; exact NS.len hg2
      have g2 := s2.2 _ _ (s1.2 _ _ gH)
      have b2 : ∀ L,(H2 ++ L)[h.length]? = some (some (.row [v.sv,v.lv])) := fun L => getElem?_app_left g2
      simp only [go_sem,ln1,ln2,g2,b2,l2]
      have hmb : 0 ≤ m ∧ m ≤ 1440 := by omega
      refine lp_all (fun j => [(4,.int .i64 m),(15,gv),(17,gv2),(19,.int .i64 j)]) (fun _ => True) c.legs.length rfl (fun j hj _ ih => ?_) (fun _ => ?_)
      · refine lp_step hmix L7_2_g [4,15,17,19] L7_2.eq_1 ?_
        obtain ⟨p,x,i1,r1,q1⟩ := hg1.at_ (j := j) (by rw [departD_len]; exact hj)
        rw [departD_at hj] at q1
        obtain ⟨p',x',i1',r1',q1'⟩ := hg2.at_ (j := j) (by rw [departD_len,wider_len]; exact hj)
        rw [departD_at (by rw [wider_len]; exact hj)] at q1'
        have z1 := r1 []
        have z2 := r1' []
        rw [List.append_nil] at z1 z2
        have f0 : (j : Int) < c.legs.length := by omega
        have hll := hR.ll
        simp only [go_sem,ln1,f0,i1,r1,z1]
        refine rvC_use (rwithin_c (spansD (rowB (goodT c j))) x m q1 spansD_len).v ?_
        rw [within_dep2 hmb]
        cases e1 : goodT c j m.toNat with
        | false =>
          simp only [go_sem]
          exact ⟨(by unfold I64; omega),ih trivial⟩
        | true =>
          simp only [go_sem,i1',r1',z2]
          refine rvC_use (rwithin_c (spansD (rowB (goodT (widerD c lo hi sh) j))) x' m q1' spansD_len).v ?_
          rw [within_dep2 hmb,wider_goodT hB hw0 hw1 hw2 hw3 e1]
          simp only [go_sem]
          exact ⟨(by unfold I64; omega),ih trivial⟩
      · refine lp_step hmix L7_2_g [4,15,17,19] L7_2.eq_1 ?_
        have x1 : ¬ (c.legs.length : Int) < c.legs.length := by omega
        simp only [go_sem,ln1,x1]
        refine rvC_use known_c.v ?_
        simp only [go_sem]
        exact sub2
end Go.Proofs.Ab

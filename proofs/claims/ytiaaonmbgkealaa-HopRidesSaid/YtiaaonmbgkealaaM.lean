/- The own layer under the proofs of this seat, part M: what calls of the program come to on an abstract heap. No condition. -/
import Derived.Test.YtiaaonmbgkealaaL
import Derived.Test.YtiaaonmbgkealaaG
set_option linter.unusedSimpArgs false
set_option linter.unusedVariables false
namespace Go.Proofs.Ab
open Go Go.Proofs
variable {w0 : World} {h : Heap}
attribute [local irreducible] ACall ACallV AYield DCall DCallV rvC rdC lp rg dr ex un rv rd'
theorem rin_c (x lo hi : Int) : DCall Try.prog w0 66 [.int .i64 x,.int .i64 lo,.int .i64 hi] h (.bool (inB x lo hi)) h := by
  refine DCall_quiet hmix mf66_ok mf66_b mf66_g (Nat.le_of_ble_eq_true rfl) (by simp [AV.bdd,AV.bdds]) fun hb ha => ex_in ?_
  simp only [go_sem,mf66]
  exact ⟨fun a => by simp [inB,a],fun a => by simp [inB,a]⟩
theorem rwithin_c (l : List Span) (v : AV) (t : Int) (hv : Sl w0 h 2 v (l.map Span.c)) (hn : l.length < 1000000) : DCall Try.prog w0 25 [v,.int .i64 t] h (.bool (within l t)) h := by
  refine DCall_quiet hmix mf25_ok mf25_b mf25_g (Nat.le_of_ble_eq_true rfl) (by simp [AV.bdd,AV.bdds]) fun hb ha => ex_in ?_
  obtain ⟨hlen,q,hix,hrow,_⟩ := hv.use
  simp only [List.length_map] at hlen hix
  simp only [go_sem,mf25]
  refine lp_all (fun j => [(0,v),(1,.int .i64 t),(5,.int .i64 j)]) (fun j => ∀ hj : j < l.length,inB t l[j].low l[j].high = false) l.length rfl (fun j hj hall ih => ?_) (fun hall => ?_)
  · refine lp_step hmix L25_0_g [0,1,5] L25_0.eq_1 ?_
    have e1 := hix j hj
    have e3 : (j : Int) < l.length := by omega
    have e2 : ∀ L,rdn w0 (h ++ L) (q.add (j * 2)) 2 = some l[j].c := fun L => rdn_app (hrow j _ (by simp [hj]))
    have t1 : ∀ L,rd w0 (h ++ L) ((q.add (j * 2)).add 0) = some (.int .i64 l[j].low) := fun L => rd_get (e2 L) rfl
    have t2 : ∀ L,rd w0 (h ++ L) ((q.add (j * 2)).add 1) = some (.int .i64 l[j].high) := fun L => rd_get (e2 L) rfl
    simp only [go_sem,hlen,e1,t1,t2,e3]
    refine rdC_q (rin_c _ _ _).v ?_
    simp only [go_sem]
    refine ⟨fun e => ?_,fun e => ⟨(by unfold I64; omega),ih fun _ => e⟩⟩
    have : within l t = true := by rw [within,List.any_eq_true]; exact ⟨_,List.getElem_mem hj,e⟩
    rw [this]
  · refine lp_step hmix L25_0_g [0,1,5] L25_0.eq_1 ?_
    have e3 : ¬ (l.length : Int) < l.length := by omega
    simp only [go_sem,hlen,e3]
    have : within l t = false := by
      rw [within,List.any_eq_false]; intro w hw
      obtain ⟨j,hj,rfl⟩ := List.getElem_of_mem hw
      simp [hall j hj hj]
    rw [this]
def nextD : List Span → Int → Int
  | [],_ => -1
  | s :: l,m => if m ≤ s.high then max m s.low else nextD l m
theorem nextD_drop {l : List Span} {m : Int} {j : Nat} (hj : j ≤ l.length) (h : ∀ i,i < j → ∀ hi : i < l.length,¬ m ≤ l[i].high) : nextD l m = nextD (l.drop j) m := by
  induction j with
  | zero => rfl
  | succ j ih =>
    rw [ih (by omega) fun i hi => h i (by omega),List.drop_eq_getElem_cons (by omega),nextD,if_neg (h j (by omega) (by omega))]
theorem rnext_c (l : List Span) (v : AV) (m : Int) (hv : Sl w0 h 2 v (l.map Span.c)) (hn : l.length < 1000000) : DCall Try.prog w0 74 [v,.int .i64 m] h (.int .i64 (nextD l m)) h := by
  refine DCall_quiet hmix mf74_ok mf74_b mf74_g (Nat.le_of_ble_eq_true rfl) (by simp [AV.bdd,AV.bdds]) fun hb ha => ex_in ?_
  obtain ⟨hlen,q,hix,hrow,_⟩ := hv.use
  simp only [List.length_map] at hlen hix
  simp only [go_sem,mf74]
  refine lp_all (fun j => [(0,v),(1,.int .i64 m),(5,.int .i64 j)]) (fun j => ∀ hj : j < l.length,¬ m ≤ l[j].high) l.length rfl (fun j hj hall ih => ?_) (fun hall => ?_)
  · refine lp_step hmix L74_0_g [0,1,5] L74_0.eq_1 ?_
    have e1 := hix j hj
    have e3 : (j : Int) < l.length := by omega
    have e2 : ∀ L,rdn w0 (h ++ L) (q.add (j * 2)) 2 = some l[j].c := fun L => rdn_app (hrow j _ (by simp [hj]))
    have t1 : ∀ L,rd w0 (h ++ L) ((q.add (j * 2)).add 0) = some (.int .i64 l[j].low) := fun L => rd_get (e2 L) rfl
    have t2 : ∀ L,rd w0 (h ++ L) ((q.add (j * 2)).add 1) = some (.int .i64 l[j].high) := fun L => rd_get (e2 L) rfl
    simp only [go_sem,hlen,e1,t1,t2,e3]
    refine ⟨fun e => ?_,fun e => ⟨(by unfold I64; omega),ih fun _ => by omega⟩⟩
    rw [nextD_drop (j := j) (by omega) (fun i hi hl => hall i hi hl),List.drop_eq_getElem_cons hj,nextD,if_pos (by omega)]
  · refine lp_step hmix L74_0_g [0,1,5] L74_0.eq_1 ?_
    have e3 : ¬ (l.length : Int) < l.length := by omega
    simp only [go_sem,hlen,e3]
    rw [nextD_drop (j := l.length) (Nat.le_refl _) (fun i hi hl => hall i hi hl),List.drop_length,nextD]
def rwindowsB (l : List Span) : Bool := (List.range l.length).all (winB l) && decide (l.length ≤ 10)
theorem rwindows_c (l : List Span) (v : AV) (hv : Sl w0 h 2 v (l.map Span.c)) (hn : l.length < 1000000) : DCall Try.prog w0 65 [v] h (.bool (rwindowsB l)) h := by
  refine DCall_quiet hmix mf65_ok mf65_b mf65_g (Nat.le_of_ble_eq_true rfl) (by simp [AV.bdd,AV.bdds]) fun hb ha => ex_in ?_
  obtain ⟨hlen,q,hix,hrow,_⟩ := hv.use
  simp only [List.length_map] at hlen hix
  simp only [go_sem,mf65]
  refine lp_all (fun j => [(0,v),(3,.int .i64 j)]) (fun j => winB l j = true) l.length rfl (fun j hj hall ih => ?_) (fun hall => ?_)
  · refine lp_step hmix L65_0_g [0,3] L65_0.eq_1 ?_
    have e1 := hix j hj
    have e3 : (j : Int) < l.length := by omega
    have e2 : ∀ L,rdn w0 (h ++ L) (q.add (j * 2)) 2 = some l[j].c := fun L => rdn_app (hrow j _ (by simp [hj]))
    have t1 : ∀ L,rd w0 (h ++ L) ((q.add (j * 2)).add 0) = some (.int .i64 l[j].low) := fun L => rd_get (e2 L) rfl
    have t2 : ∀ L,rd w0 (h ++ L) ((q.add (j * 2)).add 1) = some (.int .i64 l[j].high) := fun L => rd_get (e2 L) rfl
    simp only [go_sem,hlen,e1,t1,t2,e3]
    have hg : l.getD j ⟨0,0⟩ = l[j] := getD_at hj
    have no : winB l j = false → AV.bool false = AV.bool (rwindowsB l) := fun e => by
      have : (List.range l.length).all (winB l) = false := List.all_eq_false.2 ⟨j,List.mem_range.2 hj,by simp [e]⟩
      simp [rwindowsB,this]
    refine ⟨fun a1 => ⟨fun a2 => ⟨fun a3 => ⟨fun a4 => ?_,fun a4 => ⟨(by unfold I64; omega),ih ?_⟩⟩,fun a3 => no ?_⟩,fun a2 => no ?_⟩,fun a1 => no ?_⟩
    · obtain ⟨k,rfl⟩ : ∃ k,j = k + 1 := ⟨j - 1,by omega⟩
      have hk : k < l.length := by omega
      have g2 : l.getD k ⟨0,0⟩ = l[k] := getD_at hk
      have hp := hall k (by omega)
      simp only [winB,g2,spanB,Bool.and_eq_true,decide_eq_true_eq] at hp
      have d2 : asNat (.int .i64 (((k + 1 : Nat) : Int) - 1)) = some k := by rw [show ((k + 1 : Nat) : Int) - 1 = (k : Int) by omega]; exact asNat_n
      have d2' : (if 0 ≤ ((k + 1 : Nat) : Int) - 1 then some (((k + 1 : Nat) : Int) - 1).toNat else none) = some k := by rw [if_pos (by omega),show ((k + 1 : Nat) : Int) - 1 = (k : Int) by omega,Int.toNat_natCast]
      have i1 := hix k hk
      have r1 : ∀ L,rd w0 (h ++ L) ((q.add (k * 2)).add 1) = some (.int .i64 l[k].high) := fun L => rd_get (rdn_app (hrow k l[k].c (by simp [hk]))) rfl
      have hI : I64 (((k + 1 : Nat) : Int) - 1) := (by unfold I64; omega)
      rw [d2']
      simp only [go_sem,i1,r1,hI]
      have hz : (k + 1 == 0) = false := rfl
      refine ⟨(by unfold I64; omega),fun a5 => no ?_,fun a5 => ⟨(by unfold I64; omega),ih ?_⟩⟩
      · simp only [winB,hg,Nat.add_sub_cancel,g2,hz,Bool.false_or,spanB]
        simp; omega
      · simp only [winB,hg,Nat.add_sub_cancel,g2,hz,Bool.false_or,spanB]
        simp; omega
    · obtain rfl : j = 0 := by omega
      simp only [winB,hg,spanB]
      simp; omega
    · simp only [winB,hg,spanB,decide_eq_false (show ¬ l[j].high ≤ 1440 by omega)]; simp
    · simp only [winB,hg,spanB,decide_eq_false (show ¬ l[j].low ≤ l[j].high by omega)]; simp
    · simp only [winB,hg,spanB,decide_eq_false (show ¬ 0 ≤ l[j].low by omega)]; simp
  · refine lp_step hmix L65_0_g [0,3] L65_0.eq_1 ?_
    have e3 : ¬ (l.length : Int) < l.length := by omega
    have h5 : ((l.length : Int) ≤ 10) = (l.length ≤ 10) := by simp only [eq_iff_iff]; omega
    simp only [go_sem,hlen,e3,h5]
    have : (List.range l.length).all (winB l) = true := List.all_eq_true.2 fun x hx => hall x (List.mem_range.1 hx)
    simp [rwindowsB,this]
theorem rchain_c (c : ChainD) (v : ChainV) (hR : ChainR w0 h c v) : DCall Try.prog w0 19 [.agg (chainC v)] h (.bool (chainB c)) h := by
  refine DCall_quiet hmix mf19_ok mf19_b mf19_g (Nat.le_of_ble_eq_true rfl) (by simp [AV.bdd,AV.bdds]) fun hb ha => ex_in ?_
  have o1 := hR.stops.one.1
  have o2 := hR.legs.one.1
  have l1 := hR.stops.use.1
  rw [stopRows_len hR.toChainS] at l1
  have l2 := hR.legs.use.1
  simp only [List.length_map] at l2
  have hls := hR.ls
  have hll := hR.ll
  have st : ∀ s : StopD,(rwindowsB s.windows && inB s.turn 0 300) = stopB s := fun s => by
    simp only [rwindowsB,stopB,windowsB]
    cases (List.range s.windows.length).all (winB s.windows) <;> cases inB s.turn 0 300 <;> simp
  simp only [go_sem,mf19,o1,o2]
  refine lp_all (fun j => [(1,.ptr (.own h.length 0)),(3,.int .i64 j)]) (fun j => ∀ hj : j < c.stops.length,stopB c.stops[j] = true) c.stops.length rfl (fun j hj hi ih => ?_) (fun es => ?_)
  · refine lp_step hmix L19_0_g [1,3] L19_0.eq_1 ?_
    obtain ⟨p,x,p1,p2,p3⟩ := hR.stop (j := j) hj
    obtain ⟨s,es⟩ : ∃ s,c.stops[j] = s := ⟨_,rfl⟩
    rw [es] at p2 p3
    have hw := hR.lw s (es ▸ List.getElem_mem hj)
    have i3 : (j : Int) < c.stops.length := by omega
    have t1 : ∀ L,rd w0 (h ++ L) (p.add 0) = some x := fun L => rd_get (p2 L) rfl
    have t2 : ∀ L,rd w0 (h ++ L) (p.add 1) = some (.int .i64 s.turn) := fun L => rd_get (p2 L) rfl
    have no : stopB s = false → chainB c = false := fun e => by
      have : c.stops.all stopB = false := List.all_eq_false.2 ⟨_,List.getElem_mem hj,by rw [es]; simp [e]⟩
      simp [chainB,this]
    simp only [go_sem,l1,i3,p1,t1,t2]
    refine rvC_use (rwindows_c s.windows x p3.app hw).v ?_
    simp only [go_sem,p1,t1,t2]
    refine ⟨fun e1 => ?_,fun e1 => ?_⟩
    · refine rvC_use (rin_c _ _ _).v ?_
      simp only [go_sem]
      refine ⟨fun e2 => by rw [no (by rw [← st,e2,Bool.and_false])],fun e2 => ⟨(by unfold I64; omega),ih fun _ => by rw [es,← st,e1,e2]; rfl⟩⟩
    · rw [no (by rw [← st,e1]; rfl)]
  refine lp_step hmix L19_0_g [1,3] L19_0.eq_1 ?_
  have x1 : ¬ (c.stops.length : Int) < c.stops.length := by omega
  simp only [go_sem,l1,x1]
  have es : c.stops.all stopB = true := List.all_eq_true.2 fun x hx => by
    obtain ⟨i,hi,rfl⟩ := List.getElem_of_mem hx
    exact es i hi hi
  refine lp_all (fun j => [(1,.ptr (.own h.length 0)),(4,.int .i64 j)]) (fun j => ∀ hj : j < c.legs.length,legB c.legs[j] = true) c.legs.length rfl (fun j hj hi ih => ?_) (fun el => ?_)
  · refine lp_step hmix L19_1_g [1,4] L19_1.eq_1 ?_
    obtain ⟨p,p1,p2⟩ := hR.leg (j := j) hj
    obtain ⟨s,es⟩ : ∃ s,c.legs[j] = s := ⟨_,rfl⟩
    rw [es] at p2
    have i3 : (j : Int) < c.legs.length := by omega
    have t1 : ∀ L,rd w0 (h ++ L) (p.add 0) = some (.int .i64 s.low) := fun L => rd_get (p2 L) rfl
    have t2 : ∀ L,rd w0 (h ++ L) (p.add 1) = some (.int .i64 s.high) := fun L => rd_get (p2 L) rfl
    have no : legB s = false → chainB c = false := fun e => by
      have : c.legs.all legB = false := List.all_eq_false.2 ⟨_,List.getElem_mem hj,by rw [es]; simp [e]⟩
      simp [chainB,this]
    simp only [go_sem,l2,i3,p1,t1,t2]
    refine ⟨fun a1 => ⟨fun a2 => ⟨fun a3 => ?_,fun a3 => ⟨(by unfold I64; omega),ih fun _ => ?_⟩⟩,fun a2 => ?_⟩,fun a1 => ?_⟩
    rotate_left
    · rw [es]; simp [legB,spanB]; omega
    all_goals rw [no (by simp [legB,spanB]; omega)]
  refine lp_step hmix L19_1_g [1,4] L19_1.eq_1 ?_
  have x2 : ¬ (c.legs.length : Int) < c.legs.length := by omega
  simp only [go_sem,l1,l2,x2]
  have el : c.legs.all legB = true := List.all_eq_true.2 fun x hx => by
    obtain ⟨i,hi,rfl⟩ := List.getElem_of_mem hx
    exact el i hi hi
  refine rvC_use (rin_c _ _ _).v ?_
  simp only [go_sem,l1,l2]
  have hI : I64 ((c.stops.length : Int) - 1) := (by unfold I64; omega)
  refine ⟨fun e1 => ⟨hI,?_⟩,fun e1 => by simp [chainB,e1]⟩
  have : ((c.legs.length : Int) == (c.stops.length : Int) - 1) = decide ((c.legs.length : Int) = (c.stops.length : Int) - 1) := rfl
  simp [chainB,e1,es,el,this]
def briefB (c : ChainD) : Bool := c.stops.all (fun s => decide (s.windows.length ≤ 20)) && (decide (c.stops.length ≤ 20) && decide (c.legs.length ≤ 20))
theorem brief_c (c : ChainD) (v : ChainV) (hS : ChainS w0 h c v) (hl : c.stops.length ≤ 9223372036854775807) : DCall Try.prog w0 16 [.agg (chainC v)] h (.bool (briefB c)) h := by
  refine DCall_quiet hmix mf16_ok mf16_b mf16_g (Nat.le_of_ble_eq_true rfl) (by simp [AV.bdd,AV.bdds]) fun hb ha => ex_in ?_
  have o1 := hS.stops.one.1
  have o2 := hS.legs.one.1
  have l1 := hS.stops.use.1
  rw [stopRows_len hS] at l1
  have l2 := hS.legs.use.1
  simp only [List.length_map] at l2
  simp only [go_sem,mf16,o1,o2]
  refine lp_all (fun j => [(1,.ptr (.own h.length 0)),(3,.int .i64 j)]) (fun j => ∀ hj : j < c.stops.length,c.stops[j].windows.length ≤ 20) c.stops.length rfl (fun j hj hi ih => ?_) (fun es => ?_)
  · refine lp_step hmix L16_0_g [1,3] L16_0.eq_1 ?_
    obtain ⟨p,x,p1,p2,p3⟩ := hS.stop (j := j) hj
    have i3 : (j : Int) < c.stops.length := by omega
    have t1 : ∀ L,rd w0 (h ++ L) (p.add 0) = some x := fun L => rd_get (p2 L) rfl
    have l3 := p3.use.1
    simp only [List.length_map] at l3
    simp only [go_sem,l1,i3,p1,t1,l3]
    refine ⟨fun e => ?_,fun e => ⟨(by unfold I64; omega),ih fun _ => by omega⟩⟩
    have : c.stops.all (fun s => decide (s.windows.length ≤ 20)) = false := List.all_eq_false.2 ⟨_,List.getElem_mem hj,by simp; omega⟩
    simp [briefB,this]
  refine lp_step hmix L16_0_g [1,3] L16_0.eq_1 ?_
  have x1 : ¬ (c.stops.length : Int) < c.stops.length := by omega
  simp only [go_sem,l1,l2,x1]
  have es : c.stops.all (fun s => decide (s.windows.length ≤ 20)) = true := List.all_eq_true.2 fun x hx => by
    obtain ⟨i,hi,rfl⟩ := List.getElem_of_mem hx
    simpa using es i hi hi
  have h5 : ((c.legs.length : Int) ≤ 20) = (c.legs.length ≤ 20) := by simp only [eq_iff_iff]; omega
  refine ⟨fun e1 => ?_,fun e1 => ?_⟩
  · simp [briefB,es,h5,show c.stops.length ≤ 20 by omega]
  · simp [briefB,show ¬ c.stops.length ≤ 20 by omega]
theorem ChainS.R {c : ChainD} {v : ChainV} (s : ChainS w0 h c v) (hb : briefB c = true) : ChainR w0 h c v := by
  simp only [briefB,Bool.and_eq_true,decide_eq_true_eq,List.all_eq_true] at hb
  exact ⟨s,by omega,by omega,fun x hx => by have := hb.1 x hx; omega⟩
end Go.Proofs.Ab
namespace Go.Proofs.Ab
open Go Go.Proofs
variable {w0 : World} {h : Heap}
attribute [local irreducible] ACall ACallV AYield DCall DCallV rvC rdC lp rg dr ex un rv rd'
theorem rspans_c (l : List Bool) (v : AV) (hv : Sl w0 h 1 v (l.map fun x => [.bool x])) (hn : l.length < 1000000) : ACall Try.prog w0 106 [v] h fun y h' => Gro h h' 2 (spansD l).length y (flatS (spansD l)) := by
  refine ACall_sx hmix mf106_ok mf106_b mf106_g (Nat.le_of_ble_eq_true rfl) fun hb ha => ex_in ?_
  obtain ⟨hlen,q,hix,hrow,_⟩ := hv.use
  simp only [List.length_map] at hlen hix
  simp only [go_sem,mf106]
  rw [List.append_nil]
  refine lp_ind (S := Nat × Heap × AV × List Span) (F := fun s => [(0,v),(3,s.2.2.1),(4,.int .i64 s.1)]) (H := fun s => s.2.1) (meas := fun s => l.length - s.1)
    (Inv := fun s => s.1 ≤ l.length ∧ s.2.2.2 = spL 0 [] (l.take s.1) ∧ s.2.2.2.length ≤ s.1 ∧ Gro h s.2.1 2 s.2.2.2.length s.2.2.1 (flatS s.2.2.2)) (0,h,.nilS,[]) ⟨Nat.zero_le _,rfl,by simp,Gro.nil HSub.refl⟩ rfl rfl ?_
  rintro ⟨t,H,ov,out⟩ ⟨ht,ho,hol,g⟩ ih
  simp only at ht ho hol g ih
  refine lp_step hmix L106_0_g [0,3,4] L106_0.eq_1 ?_
  by_cases htn : t < l.length
  · have e1 := hix t htn
    have e3 : (t : Int) < l.length := by omega
    have e2 : ∀ L,rd w0 (H ++ L) (q.add t) = some (.bool l[t]) := fun L => by
      have := (g.sub.app (L := L)).rdn (w0 := w0) (hrow t [.bool l[t]] (by simp [htn]))
      rw [Nat.mul_one] at this
      exact rd_0 this rfl
    have e2' := e2 []
    rw [List.append_nil] at e2'
    rw [Nat.mul_one] at e1
    have hnext : spL 0 [] (l.take (t + 1)) = if l[t] then addT out t else out := by
      rw [List.take_add_one,List.getElem?_eq_getElem htn,Option.toList,spL_snoc,← ho,List.length_take,Nat.zero_add,Nat.min_eq_left (by omega)]
    simp only [go_sem,hlen,e1,e2,e2',e3]
    have hll : lenV ov = some (.int .i64 out.length) := by
      rcases g.own with ⟨h1,h2,h3⟩ | ⟨io,h1,h2,h3,_⟩
      · rw [h2,h1]; rfl
      · rw [h3]; rfl
    have happ : l[t] = true → (∀ s init,out = init ++ [s] → s.high ≠ (t : Int) - 1) → ∀ G,appA w0 (H ++ [some (.row [.int .i64 (t : Int),.int .i64 (t : Int)])]) 2 16 ov (.sl (.own H.length 0) 1 2 true) = some (.sl (.own (H.length + 1) 0) (out.length + 1) 2 false,G) → Gro h G 2 (out.length + 1) (.sl (.own (H.length + 1) 0) (out.length + 1) 2 false) (flatS out ++ [.int .i64 (t : Int),.int .i64 (t : Int)]) →
        lp Try.prog w0 none 45 (List.length h) (resK w0 [RV.t 2] fun y h' => Gro h h' 2 (spansD l).length y (flatS (spansD l))) L106_0 _ [(0,v),(3,.sl (.own (H.length + 1) 0) (out.length + 1) 2 false),(4,.int .i64 ((t : Int) + 1))] G := fun e hne G _ gG => by
      have hadd : addT out t = out ++ [⟨t,t⟩] := by
        unfold addT
        split
        · rename_i s hs
          obtain ⟨init,rfl⟩ : ∃ init,out = init ++ [s] := by
            have hne' : out ≠ [] := by rintro rfl; simp at hs
            refine ⟨out.dropLast,?_⟩
            rw [List.getLast?_eq_some_getLast hne'] at hs
            cases hs; exact (List.dropLast_concat_getLast hne').symm
          rw [if_neg (hne s init rfl)]
        · rename_i hs
          rw [List.getLast?_eq_none_iff.1 hs]; rfl
      have := ih (t + 1,G,_,out ++ [⟨t,t⟩]) ⟨by simp only; omega,by simp only; rw [hnext,if_pos e,hadd],by simp; omega,by
        simp only [List.length_append,List.length_cons,List.length_nil,flatS_app]; exact gG⟩ (by simp only; omega)
      simpa using this
    refine ⟨fun e => ?_,fun e => ?_⟩
    · have := ih (t + 1,H,ov,out) ⟨by simp only; omega,by simp only; rw [hnext,e]; rfl,by simp only; omega,g⟩ (by simp only; omega)
      exact ⟨(by unfold I64; omega),by simpa using this⟩
    · obtain ⟨G,eG,gG⟩ := (g.app (L := [some (.row [.int .i64 (t : Int),.int .i64 (t : Int)])])).more (w0 := w0) (b := 16) (k := H.length) (x := [.int .i64 (t : Int),.int .i64 (t : Int)]) (f := true) (by simp) rfl rfl (by omega) (by omega)
      rw [List.length_append,List.length_singleton] at eG gG
      rcases List.eq_nil_or_concat out with rfl | ⟨init,s,rfl⟩
      · have hll0 : lenV ov = some (.int .i64 0) := by simpa using hll
        have h1 := happ e (fun s init h => by simp at h) G eG gG
        simp only [List.length_nil,Nat.zero_add] at eG h1
        simp only [go_sem,hll0,eG]
        exact ⟨(by unfold I64; omega),h1⟩
      · rw [List.concat_eq_append] at *
        have hno : (init ++ [s]).length ≠ 0 := by simp
        obtain ⟨io,io1,io2,io3,_,io5⟩ := g.put hno
        obtain ⟨N,eN⟩ : ∃ N,init.length = N := ⟨_,rfl⟩
        have hln : (init ++ [s]).length = N + 1 := by simp [eN]
        have hflat : flatS (init ++ [s]) = flatS init ++ [.int .i64 s.low,.int .i64 s.high] := flatS_app
        have hfl : (flatS init).length = N * 2 := by rw [flatS_len,eN]
        have h1 := fun hne : s.high ≠ (t : Int) - 1 => happ e (fun s' init' h => by
          have := List.append_inj_right' h rfl
          simp only [List.cons.injEq,and_true] at this
          subst this; exact hne) G eG gG
        have hlen2 : (flatS (init ++ [s])).length = N * 2 + 1 + 1 := by rw [flatS_len,hln]; omega
        have hrow' : (flatS (init ++ [s])).take (N * 2 + 1) ++ .int .i64 (t : Int) :: (flatS (init ++ [s])).drop (N * 2 + (1 + 1)) = flatS (init ++ [⟨s.low,t⟩]) := by
          rw [hflat,flatS_app,List.take_append,List.take_of_length_le (by omega),hfl,show N * 2 + 1 - N * 2 = 1 by omega,List.drop_eq_nil_of_le (by simp [hfl])]
          simp [Span.c]
        have hadd : s.high = (t : Int) - 1 → addT (init ++ [s]) t = init ++ [⟨s.low,t⟩] := fun e2 => by
          simp [addT,e2]
        have h2 := fun e2 : s.high = (t : Int) - 1 => ih (t + 1,H.set io (some (.row (flatS (init ++ [⟨s.low,t⟩])))),ov,init ++ [⟨s.low,t⟩]) ⟨by simp only; omega,by simp only; rw [hnext,if_pos e,hadd e2],by simp only [List.length_append,List.length_singleton] at hol ⊢; omega,by
          have := io5 (flatS (init ++ [⟨s.low,t⟩])) (by rw [flatS_len,flatS_len]; simp)
          simpa using this⟩ (by simp only; omega)
        have hll1 : lenV ov = some (.int .i64 ((N : Int) + 1)) := by rw [hll,hln]; rfl
        have q1 : (0 : Int) < (N : Int) + 1 := by omega
        have hI : I64 ((N : Int) + 1 - 1) := (by unfold I64; omega)
        have q2 : asNat (.int .i64 ((N : Int) + 1 - 1)) = some N := by rw [show (N : Int) + 1 - 1 = (N : Int) by omega]; exact asNat_n
        have q3 : idxsV 2 ov (some N) = some (.ptr (.own io (N * 2))) := by rw [io2,hln]; simp [idxsV,esOk,Pl.add]
        have q4 : (flatS (init ++ [s]))[N * 2 + 1]? = some (.int .i64 s.high) := by
          rw [hflat,List.getElem?_append_right (by omega),hfl,show N * 2 + 1 - N * 2 = 1 by omega]; rfl
        have q5 : ∀ L,rd w0 (H ++ L) (.own io (N * 2 + 1)) = some (.int .i64 s.high) := fun L => by
          simp only [rd]; rw [getElem?_app_left io3]; exact q4
        have q5' := q5 []
        rw [List.append_nil] at q5'
        rw [hln] at eG h1
        simp only [go_sem,hll1,q1,q2,q3,q5,q5',hI]
        refine ⟨(by unfold I64; omega),fun e2 => ?_,fun e2 => ?_⟩
        · have hle : N * 2 + (1 + 1) ≤ (flatS (init ++ [s])).length := by omega
          simp only [go_sem,io3,hlen2]
          rw [hrow']
          exact ⟨Nat.le_refl _,(by unfold I64; omega),by simpa using h2 e2⟩
        · simp only [go_sem,eG]
          exact ⟨(by unfold I64; omega),h1 e2⟩
  · have e3 : ¬ (t : Int) < l.length := by omega
    obtain rfl : t = l.length := by omega
    simp only [go_sem,hlen,e3]
    rw [List.take_length] at ho
    rw [ho] at g
    exact g
def rfailsB (c : ChainD) (i : Nat) (m : Int) (next : List Span) : Bool := !within (stopD c (i + 1)).windows m || (decide (i + 2 < c.stops.length) && decide (nextD next (m + (stopD c (i + 1)).turn) < 0))
theorem rfails_c (c : ChainD) (v : ChainV) (i : Nat) (m : Int) (next : List Span) (nv : AV) (hR : ChainR w0 h c v) (hB : chainB c = true) (hi : i < c.legs.length) (hm : -10000 ≤ m ∧ m < 10000) (hv : Sl w0 h 2 nv (next.map Span.c)) (hn : next.length < 1000000) :
    DCall Try.prog w0 75 [.agg (chainC v),.int .i64 i,.int .i64 m,nv] h (.bool (rfailsB c i m next)) h := by
  refine DCall_quiet hmix mf75_ok mf75_b mf75_g (Nat.le_of_ble_eq_true rfl) (by simp [AV.bdd,AV.bdds]) fun hb ha => ex_in ?_
  have bs := chainB_spec hB
  have o1 := hR.stops.one.1
  have o2 := hR.legs.one.1
  have l1 := hR.stops.use.1
  rw [stopRows_len hR.toChainS] at l1
  have hi1 : i + 1 < c.stops.length := by omega
  obtain ⟨p,x,p1,p2,p3⟩ := hR.stop (j := i + 1) hi1
  obtain ⟨s,es⟩ : ∃ s,c.stops[i + 1] = s := ⟨_,rfl⟩
  rw [es] at p2 p3
  have gs : stopD c (i + 1) = s := by rw [stopD,getD_at hi1,es]
  have hs := bs.2.2.2.1 s (es ▸ List.getElem_mem hi1)
  have t1 : ∀ L,rd w0 (h ++ L) (p.add 0) = some x := fun L => rd_get (p2 L) rfl
  have t2 : ∀ L,rd w0 (h ++ L) (p.add 1) = some (.int .i64 s.turn) := fun L => rd_get (p2 L) rfl
  have d1 : asNat (.int .i64 ((i : Int) + 1)) = some (i + 1) := by rw [show (i : Int) + 1 = ((i + 1 : Nat) : Int) by omega]; exact asNat_n
  have hI : I64 ((i : Int) + 1) := (by unfold I64; omega)
  simp only [go_sem,mf75,o1,o2,d1,p1,t1,hI]
  refine rvC_use (rwithin_c s.windows x m p3.app (by omega)).v ?_
  simp only [go_sem]
  have hI2 : I64 ((i : Int) + 2) := (by unfold I64; omega)
  have hI3 : I64 (m + s.turn) := (by unfold I64; omega)
  cases e1 : within s.windows m with
  | false => simp only [go_sem,l1,hI2,d1,p1,t2,hI3]; simp [rfailsB,gs,e1]
  | true =>
    simp only [go_sem,l1,hI,hI2,d1,p1,t2,hI3]
    refine ⟨fun e2 => ?_,fun e2 => ?_⟩
    · refine rvC_use (rnext_c next nv (m + s.turn) hv.app hn).v ?_
      simp only [go_sem]
      have : i + 2 < c.stops.length := by omega
      simp [rfailsB,gs,e1,this]
    · have : ¬ i + 2 < c.stops.length := by omega
      simp [rfailsB,gs,e1,this]
end Go.Proofs.Ab
namespace Go.Proofs.Ab
open Go Go.Proofs
variable {w0 : World} {h : Heap}
attribute [local irreducible] ACall ACallV AYield DCall DCallV rvC rdC lp rg dr ex un rv rd'
def allK (p : Int → Bool) : Nat → Int → Bool
  | 0,_ => true
  | k + 1,d => p d && allK p k (d + 1)
def rgoodT (c : ChainD) (i : Nat) (next : List Span) (t : Nat) : Bool := within (stopD c i).windows t && allK (fun d => !rfailsB c i (t + d) next) ((legD c i).high - (legD c i).low + 1).toNat (legD c i).low
def rgoodD (c : ChainD) (i : Nat) (next : List Span) : List Span := spansD (rowB (rgoodT c i next))
def upd1 (f : Nat → Bool) (t : Nat) (b : Bool) : Nat → Bool := fun u => if u = t then b else f u
theorem rowC_upd {f : Nat → Bool} {t : Nat} {b : Bool} (ht : t < 1441) : (rowC f).take t ++ .bool b :: (rowC f).drop (t + 1) = rowC (upd1 f t b) := by
  have : (rowC f).take t ++ .bool b :: (rowC f).drop (t + 1) = (rowC f).set t (.bool b) := by rw [List.set_eq_take_append_cons_drop,if_pos (by rw [rowC_len]; exact ht)]
  rw [this]
  refine List.ext_getElem? fun k => ?_
  rw [List.getElem?_set]
  by_cases hk : t = k
  · subst hk
    rw [if_pos rfl,if_pos (by rw [rowC_len]; exact ht),rowC,List.getElem?_map,List.getElem?_range ht]
    simp [upd1]
  · rw [if_neg hk]
    by_cases hk2 : k < 1441
    · rw [rowC,rowC,List.getElem?_map,List.getElem?_map,List.getElem?_range hk2]
      simp only [Option.map_some,upd1]; rw [if_neg (by omega)]
    · rw [List.getElem?_eq_none (by rw [rowC_len]; omega),List.getElem?_eq_none (by rw [rowC_len]; omega)]
theorem rowC_get {f : Nat → Bool} {t : Nat} (ht : t < 1441) : (rowC f)[t]? = some (.bool (f t)) := by rw [rowC,List.getElem?_map,List.getElem?_range ht]; rfl
theorem upd1_self {f : Nat → Bool} {t : Nat} {b : Bool} : upd1 f t b t = b := by simp [upd1]
theorem upd1_upd {f : Nat → Bool} {t : Nat} {a b : Bool} : upd1 (upd1 f t a) t b = upd1 f t b := by
  funext u; simp only [upd1]; split <;> rfl
theorem rowC_false : List.replicate 1441 (AV.bool false) = rowC fun _ => false := by
  refine List.ext_getElem? fun k => ?_
  by_cases hk2 : k < 1441
  · rw [rowC_get hk2,List.getElem?_replicate,if_pos hk2]
  · rw [List.getElem?_eq_none (by rw [List.length_replicate]; omega),List.getElem?_eq_none (by rw [rowC_len]; omega)]
theorem reps_false : reps [AV.bool false] 1441 = rowC fun _ => false := by
  have h1 : ∀ n,reps [AV.bool false] n = List.replicate n (.bool false) := fun n => by
    induction n with
    | zero => rfl
    | succ n ih => rw [reps,ih]; rfl
  rw [h1,rowC_false]
theorem mk_false {H : Heap} : mkslV 1 [AV.bool false] 1 (some 1441) (some 1441) H = some (.sl (.own H.length 0) 1441 1 true,H ++ [some (.row (rowC fun _ => false))]) := by
  rw [mkslV_s,if_pos (by decide),reps_false]; rfl
theorem rowB_congr {f g : Nat → Bool} (e : ∀ t,t < 1441 → f t = g t) : rowB f = rowB g := List.map_congr_left fun t ht => e t (List.mem_range.1 ht)
theorem Gro.base {g H : Heap} {es n : Nat} {ov : AV} {vs : List AV} (a : Gro g H es n ov vs) (s : HSub h g) : Gro h H es n ov vs := by
  refine ⟨s.trans a.sub,?_⟩
  rcases a.own with h1 | ⟨io,h1,h2⟩
  · exact .inl h1
  · exact .inr ⟨io,Nat.le_trans s.1 h1,h2⟩
theorem rgood_c (c : ChainD) (v : ChainV) (i : Nat) (next : List Span) (nv : AV) (hR : ChainR w0 h c v) (hB : chainB c = true) (hi : i < c.legs.length) (hv : Sl w0 h 2 nv (next.map Span.c)) (hn : next.length < 1000000) :
    ACall Try.prog w0 67 [.agg (chainC v),.int .i64 i,nv] h fun y H => Gro h H 2 (rgoodD c i next).length y (flatS (rgoodD c i next)) := by
  refine ACall_sx hmix mf67_ok mf67_b mf67_g (Nat.le_of_ble_eq_true rfl) fun hb ha => ex_in ?_
  have bs := chainB_spec hB
  have o1 := hR.stops.one.1
  have o2 := hR.legs.one.1
  simp only [go_sem,mf67,o1,o2,mk_false]
  obtain ⟨pl,px,pl1,pl2,pl3⟩ := hR.stop (j := i) (by omega)
  obtain ⟨s,es⟩ : ∃ s,c.stops[i]'(by omega) = s := ⟨_,rfl⟩
  rw [es] at pl2 pl3
  have gs : stopD c i = s := by rw [stopD,getD_at (by omega),es]
  have hs := bs.2.2.2.1 s (es ▸ List.getElem_mem (by omega))
  have t1 : ∀ L,rd w0 (h ++ L) (pl.add 0) = some px := fun L => rd_get (pl2 L) rfl
  obtain ⟨gl,gl1,gl2⟩ := hR.leg (j := i) hi
  obtain ⟨g,eg⟩ : ∃ g,c.legs[i] = g := ⟨_,rfl⟩
  rw [eg] at gl2
  have gg : legD c i = g := by rw [legD,getD_at hi,eg]
  have hg := bs.2.2.2.2 g (eg ▸ List.getElem_mem hi)
  have u1 : ∀ L,rd w0 (h ++ L) (gl.add 0) = some (.int .i64 g.low) := fun L => rd_get (gl2 L) rfl
  have u2 : ∀ L,rd w0 (h ++ L) (gl.add 1) = some (.int .i64 g.high) := fun L => rd_get (gl2 L) rfl
  obtain ⟨n,en⟩ : ∃ n,n = (g.high - g.low + 1).toNat := ⟨_,rfl⟩
  refine lp_ind (S := Nat × (Nat → Bool)) (F := fun s => [(1,.int .i64 i),(2,nv),(3,.ptr (.own h.length 0)),(7,.sl (.own (h.length + 1) 0) 1441 1 true),(8,.int .i64 s.1)])
    (H := fun s => h ++ [some (.row [v.sv,v.lv]),some (.row (rowC s.2))]) (meas := fun s => 1441 - s.1)
    (Inv := fun s => s.1 ≤ 1441 ∧ ∀ t,t < s.1 → s.2 t = rgoodT c i next t) (0,fun _ => false) ⟨Nat.zero_le _,fun t ht => absurd ht (by simp)⟩ rfl rfl ?_
  rintro ⟨t,f⟩ ⟨ht,hf⟩ ih
  simp only at ht hf ih
  refine lp_step hmix L67_1_g [1,2,3,7,8] L67_1.eq_1 ?_
  by_cases htn : t < 1441
  · have e2 : (t : Int) ≤ 1440 := by omega
    have i1 : idxsV 1 (.sl (.own (h.length + 1) 0) 1441 1 true) (some t) = some (.ptr (.own (h.length + 1) (t * 1))) := by simp [idxsV,esOk,htn,Pl.add]
    rw [Nat.mul_one] at i1
    have hlt : t + 1 ≤ 1441 := htn
    simp only [go_sem,e2,pl1,t1]
    refine rvC_use (rwithin_c s.windows px t pl3.app (by omega)).v ?_
    simp only [go_sem,i1,rowC_len,hlt,gl1,u1]
    rw [rowC_upd htn]
    have hbs : ∀ L,(h ++ L)[h.length]? = L[0]? := fun L => by rw [List.getElem?_append_right (Nat.le_refl _),Nat.sub_self]
    refine lp_ind (S := Nat × Bool) (F := fun s => [(1,.int .i64 i),(2,nv),(3,.ptr (.own h.length 0)),(7,.sl (.own (h.length + 1) 0) 1441 1 true),(8,.int .i64 t),(9,.int .i64 (g.low + s.1))])
      (H := fun s => h ++ [some (.row [v.sv,v.lv]),some (.row (rowC (upd1 f t s.2)))]) (meas := fun s => n - s.1)
      (Inv := fun q => q.1 ≤ n ∧ rgoodT c i next t = (q.2 && allK (fun d => !rfailsB c i (t + d) next) (n - q.1) (g.low + q.1))) (0,within s.windows t) ⟨Nat.zero_le _,by simp only [rgoodT,gs,gg,en]; simp⟩ (by simp) rfl ?_
    rintro ⟨k,b⟩ ⟨hk,hr⟩ ih2
    simp only at hk hr ih2
    refine lp_step hmix L67_0_g [1,2,3,7,8,9] L67_0.eq_1 ?_
    have done : (∀ u,u < t + 1 → upd1 f t b u = rgoodT c i next u) → I64 ((t : Int) + 1) ∧ lp Try.prog w0 none 61 (List.length h) (resK w0 [RV.t 6] fun y H => Gro h H 2 (rgoodD c i next).length y (flatS (rgoodD c i next))) L67_1 _ [(1,.int .i64 i),(2,nv),(3,.ptr (.own h.length 0)),(7,.sl (.own (h.length + 1) 0) 1441 1 true),(8,.int .i64 ((t : Int) + 1))] (h ++ [some (.row [v.sv,v.lv]),some (.row (rowC (upd1 f t b)))]) := fun e =>
      ⟨(by unfold I64; omega),by simpa using ih (t + 1,upd1 f t b) ⟨by simp only; omega,e⟩ (by simp only; omega)⟩
    have hup : ∀ b,b = rgoodT c i next t → ∀ u,u < t + 1 → upd1 f t b u = rgoodT c i next u := fun b e u hu => by
      simp only [upd1]
      split
      · rename_i h1; rw [h1,e]
      · exact hf u (by omega)
    have rg : (rowC (upd1 f t b))[t]? = some (.bool b) := by rw [rowC_get htn,upd1_self]
    by_cases hkn : k < n
    · have e3 : g.low + (k : Int) ≤ g.high := by omega
      cases b with
      | false =>
        simp only [go_sem,gl1,u2,e3,i1,rg]
        exact done (hup false (by rw [hr]; rfl))
      | true =>
        have hI : I64 ((t : Int) + (g.low + (k : Int))) := (by unfold I64; omega)
        simp only [go_sem,gl1,u2,e3,i1,rg,hI,o1,o2]
        refine rvC_use (rfails_c c v i ((t : Int) + (g.low + (k : Int))) next nv hR.app hB hi (by omega) hv.app hn).v ?_
        simp only [go_sem,i1,rowC_len,hlt]
        rw [rowC_upd htn,upd1_upd]
        have := ih2 (k + 1,!rfailsB c i ((t : Int) + (g.low + (k : Int))) next) ⟨by simp only; omega,by
          simp only
          rw [hr,show n - k = (n - (k + 1)) + 1 by omega,allK,Bool.true_and,show g.low + ((k + 1 : Nat) : Int) = g.low + (k : Int) + 1 by omega]⟩ (by simp only; omega)
        refine ⟨(by unfold I64; omega),?_⟩
        simpa [Int.add_assoc] using this
    · have e3 : ¬ g.low + (k : Int) ≤ g.high := by omega
      simp only [go_sem,gl1,u2,e3]
      refine done (hup b ?_)
      rw [hr,show n - k = 0 by omega]; simp [allK]
  · have e2 : ¬ (t : Int) ≤ 1440 := by omega
    obtain rfl : t = 1441 := by omega
    simp only [go_sem,e2]
    have hG : HSub h (h ++ [some (.row [v.sv,v.lv]),some (.row (rowC f))]) := HSub.refl.app
    have hv1 : Sl w0 (h ++ [some (.row [v.sv,v.lv]),some (.row (rowC f))]) 1 (.sl (.own (h.length + 1) 0) 1441 1 true) ((rowB f).map fun x => [AV.bool x]) := by
      have := Sl_lit (w0 := w0) (h := h) ((rowB f).map fun x => [AV.bool x]) (es := 1) true (L := [some (.row [v.sv,v.lv]),some (.row (rowC f))]) 1 (by rw [← rowC_flat]; rfl) (fun c hc => by obtain ⟨x,_,rfl⟩ := List.mem_map.1 hc; rfl)
      have hl : ((rowB f).map fun x => [AV.bool x]).length = 1441 := by simp [rowB]
      rw [hl] at this
      exact this
    refine rvC_post (ACall.vc (first := []) (args := [.sl (.own (h.length + 1) 0) 1441 1 true]) (rspans_c (rowB f) _ hv1 (by simp [rowB]))) ?_
    intro y H hy
    have he : spansD (rowB f) = rgoodD c i next := by rw [rgoodD,rowB_congr hf]
    rw [he] at hy
    simp only [go_sem]
    exact hy.base hG
end Go.Proofs.Ab
namespace Go.Proofs.Ab
open Go Go.Proofs
theorem nextD_snoc {l : List Span} {s : Span} {m : Int} (hl : ∀ x ∈ l,0 ≤ x.low) (hm : 0 ≤ m) : nextD (l ++ [s]) m = if nextD l m < 0 then (if m ≤ s.high then max m s.low else -1) else nextD l m := by
  induction l with
  | nil => simp [nextD]
  | cons a l ih =>
    have hi := ih fun x hx => hl x (List.mem_cons_of_mem _ hx)
    by_cases h : m ≤ a.high
    · have := hl a List.mem_cons_self
      have h5 : ¬ max m a.low < 0 := by omega
      simp only [List.cons_append,nextD,h,if_true,h5,if_false]
    · simp only [List.cons_append,nextD,h,if_false,hi]
theorem idxOf_snoc {p : Nat → Bool} {k : Nat} : idxOf p (List.range (k + 1)) = if idxOf p (List.range k) < 0 then (if p k then (k : Int) else -1) else idxOf p (List.range k) := by
  unfold idxOf
  rw [List.range_succ,List.findIdx?_append]
  cases e : (List.range k).findIdx? p with
  | none =>
    simp only [Option.none_or,List.findIdx?_cons,List.findIdx?_nil,List.length_range]
    cases hp : p k <;> simp
  | some i => simp; omega
structure SpI (r : Nat → Bool) (k : Nat) (out : List Span) : Prop where
  bd : ∀ s ∈ out,0 ≤ s.low ∧ s.low ≤ s.high ∧ s.high < k
  nx : ∀ m : Int,0 ≤ m → nextD out m = idxOf (fun (t : Nat) => decide (m ≤ (t : Int)) && r t) (List.range k)
  wi : ∀ m : Nat,within out m = (decide (m < k) && r m)
theorem SpI.nil {r : Nat → Bool} : SpI r 0 [] := ⟨by simp,fun m _ => rfl,fun m => by simp [within]⟩
theorem SpI.no {r : Nat → Bool} {k : Nat} {out : List Span} (a : SpI r k out) (h : r k = false) : SpI r (k + 1) out := by
  refine ⟨fun s hs => by have := a.bd s hs; omega,fun m hm => ?_,fun m => ?_⟩
  · rw [a.nx m hm,idxOf_snoc,h]
    simp only [Bool.and_false,Bool.false_eq_true,if_false]
    split
    · rename_i h1; unfold idxOf at h1 ⊢; split at h1
      · omega
      · rfl
    · rfl
  · rw [a.wi]
    by_cases hm : m = k
    · subst hm; simp [h]
    · have : decide (m < k) = decide (m < k + 1) := by rw [decide_eq_decide]; omega
      rw [this]
theorem within_snoc {l : List Span} {s : Span} {m : Int} : within (l ++ [s]) m = (within l m || inB m s.low s.high) := by simp [within]
theorem SpI.yes {r : Nat → Bool} {k : Nat} {out : List Span} (a : SpI r k out) (h : r k = true) : SpI r (k + 1) (addT out k) := by
  have hp : ∀ m : Int,(decide (m ≤ (k : Int)) && r k) = decide (m ≤ (k : Int)) := fun m => by rw [h,Bool.and_true]
  have hnew : (∀ init s,out = init ++ [s] → s.high ≠ (k : Int) - 1) → SpI r (k + 1) (out ++ [⟨k,k⟩]) := fun _ => by
    refine ⟨fun s hs => ?_,fun m hm => ?_,fun m => ?_⟩
    · rcases List.mem_append.1 hs with h1 | h1
      · have := a.bd s h1; omega
      · simp only [List.mem_singleton] at h1; subst h1; simp; omega
    · rw [nextD_snoc (fun x hx => (a.bd x hx).1) hm,a.nx m hm,idxOf_snoc,hp]
      simp only [decide_eq_true_eq]
      split
      · split
        · omega
        · rfl
      · rfl
    · rw [within_snoc,a.wi]
      simp only [inB]
      by_cases hm : m = k
      · subst hm; simp [h]
      · have e1 : decide (m < k) = decide (m < k + 1) := by rw [decide_eq_decide]; omega
        have e2 : (decide ((k : Int) ≤ (m : Int)) && decide ((m : Int) ≤ (k : Int))) = false := by
          rcases Nat.lt_or_ge m k with h1 | h1
          · rw [decide_eq_false (by omega)]; rfl
          · rw [decide_eq_false (show ¬ (m : Int) ≤ (k : Int) by omega),Bool.and_false]
        rw [e1,e2,Bool.or_false]
  rcases List.eq_nil_or_concat out with rfl | ⟨init,s,rfl⟩
  · exact hnew fun init s e => by simp at e
  · rw [List.concat_eq_append] at *
    by_cases hs : s.high = (k : Int) - 1
    · have e : addT (init ++ [s]) k = init ++ [⟨s.low,k⟩] := by simp [addT,hs]
      rw [e]
      have hb := a.bd s (by simp)
      have hi : ∀ x ∈ init,0 ≤ x.low := fun x hx => (a.bd x (by simp [hx])).1
      refine ⟨fun x hx => ?_,fun m hm => ?_,fun m => ?_⟩
      · rcases List.mem_append.1 hx with h1 | h1
        · have := a.bd x (by simp [h1]); omega
        · simp only [List.mem_singleton] at h1; subst h1; simp; omega
      · have o := a.nx m hm
        rw [nextD_snoc hi hm] at o ⊢
        rw [idxOf_snoc,hp,← o]
        simp only [decide_eq_true_eq]
        by_cases h1 : nextD init m < 0
        · by_cases h3 : m ≤ s.high
          · have h4 : m ≤ (k : Int) := by omega
            have h5 : ¬ max m s.low < 0 := by omega
            simp only [h1,h3,h4,h5,if_true,if_false]
          · have h5 : (-1 : Int) < 0 := by omega
            by_cases h4 : m ≤ (k : Int)
            · simp only [h1,h3,h4,h5,if_true,if_false]; omega
            · simp only [h1,h3,h4,h5,if_true,if_false]
        · simp only [h1,if_false]
      · have o := a.wi m
        rw [within_snoc] at o ⊢
        simp only [inB] at o ⊢
        by_cases hm : m = k
        · subst hm
          rw [decide_eq_true (show s.low ≤ (m : Int) by omega),decide_eq_true (Int.le_refl _),decide_eq_true (by omega),h]; simp
        · have e1 : decide (m < k + 1) = decide (m < k) := by rw [decide_eq_decide]; omega
          have e2 : decide ((m : Int) ≤ (k : Int)) = decide ((m : Int) ≤ s.high) := by rw [decide_eq_decide]; omega
          rw [e1,e2]; exact o
    · have e : addT (init ++ [s]) k = init ++ [s] ++ [⟨k,k⟩] := by simp [addT,hs]
      rw [e]
      exact hnew fun init' s' e' => by
        have := List.append_inj_right' e' rfl
        simp only [List.cons.injEq,and_true] at this
        subst this; exact hs
theorem SpI.all {r : Nat → Bool} : ∀ k,k ≤ 1441 → SpI r k (spL 0 [] ((rowB r).take k)) := by
  intro k hk
  induction k with
  | zero => exact SpI.nil
  | succ k ih =>
    have i := ih (by omega)
    have hl : (rowB r)[k]? = some (r k) := by rw [rowB,List.getElem?_map,List.getElem?_range (by omega)]; rfl
    rw [List.take_add_one,hl,Option.toList,spL_snoc,List.length_take,Nat.zero_add,Nat.min_eq_left (by simp [rowB]; omega)]
    cases e : r k with
    | true => rw [if_pos rfl]; exact i.yes e
    | false => exact i.no e
theorem spans_I (r : Nat → Bool) : SpI r 1441 (spansD (rowB r)) := by
  have := SpI.all (r := r) 1441 (Nat.le_refl _)
  rwa [List.take_of_length_le (by simp [rowB])] at this
theorem next_spans {r : Nat → Bool} {m : Int} (hm : 0 ≤ m) : nextD (spansD (rowB r)) m = fromD r m := (spans_I r).nx m hm
theorem within_spans {r : Nat → Bool} {m : Nat} : within (spansD (rowB r)) m = (decide (m < 1441) && r m) := (spans_I r).wi m
theorem allK_bad {p go : Int → Bool} {m : Int} : ∀ {n : Nat} {d : Int},0 ≤ d → (∀ x,d ≤ x → x < d + n → p x = go (m + x)) → allK p n d = decide (firstBad go m n d < 0)
  | 0,d,_,_ => rfl
  | n + 1,d,hd,h => by
    rw [allK,firstBad,h d (Int.le_refl _) (by omega)]
    cases e : go (m + d) with
    | true => rw [if_pos rfl,Bool.true_and]; exact allK_bad (by omega) fun x h1 h2 => h x (by omega) (by omega)
    | false => rw [if_neg (by simp),decide_eq_false (by omega)]; rfl
theorem fails_goes {c : ChainD} {i : Nat} {next : List Span} {u : Int} (hB : chainB c = true) (hi : i < c.legs.length) (hnx : i + 1 < c.legs.length → next = spansD (rowB (goodT c (i + 1)))) (hu : 0 ≤ u) : rfailsB c i u next = !goesD c i (goodT c (i + 1)) u := by
  have bs := chainB_spec hB
  unfold rfailsB goesD
  change (!within (stopD c (i + 1)).windows u || _) = !(within (stopD c (i + 1)).windows u && (_ || decide (0 ≤ fromD (goodT c (i + 1)) (u + (stopD c (i + 1)).turn))))
  cases e : within (stopD c (i + 1)).windows u with
  | false => rfl
  | true =>
    have ht : 0 ≤ (stopD c (i + 1)).turn := by
      have h1 : i + 1 < c.stops.length := by omega
      rw [stopD,getD_at h1]; exact (bs.2.2.2.1 _ (List.getElem_mem h1)).2.1
    by_cases hl : i + 1 = c.legs.length
    · rw [decide_eq_true hl,decide_eq_false (by omega)]; rfl
    · rw [decide_eq_false hl,decide_eq_true (show i + 2 < c.stops.length by omega),hnx (by omega),next_spans (by omega)]
      simp only [Bool.not_true,Bool.false_or,Bool.true_and]
      by_cases h0 : 0 ≤ fromD (goodT c (i + 1)) (u + (stopD c (i + 1)).turn)
      · rw [decide_eq_true h0,decide_eq_false (by omega)]; rfl
      · rw [decide_eq_false h0,decide_eq_true (by omega)]; rfl
theorem rgoodT_eq {c : ChainD} {i : Nat} {next : List Span} {t : Nat} (hB : chainB c = true) (hi : i < c.legs.length) (hnx : i + 1 < c.legs.length → next = spansD (rowB (goodT c (i + 1)))) : rgoodT c i next t = goodT c i t := by
  have bs := chainB_spec hB
  have hg : 0 ≤ (legD c i).low := by rw [legD,getD_at hi]; exact (bs.2.2.2.2 _ (List.getElem_mem hi)).1
  rw [goodT_eq hi,rgoodT,failsD,allK_bad (go := goesD c i (goodT c (i + 1))) (m := t) hg fun x h1 h2 => by rw [fails_goes hB hi hnx (by omega),Bool.not_not]]
theorem rgoodD_eq {c : ChainD} {i : Nat} {next : List Span} (hB : chainB c = true) (hi : i < c.legs.length) (hnx : i + 1 < c.legs.length → next = spansD (rowB (goodT c (i + 1)))) : rgoodD c i next = spansD (rowB (goodT c i)) := by
  rw [rgoodD,rowB_congr fun t _ => rgoodT_eq hB hi hnx]
end Go.Proofs.Ab
namespace Go.Proofs.Ab
open Go Go.Proofs
variable {w0 : World} {h : Heap}
attribute [local irreducible] ACall ACallV AYield DCall DCallV rvC rdC lp rg dr ex un rv rd'
def OwnSp (io : Nat) (G : Heap) (y : AV) (l : List Span) : Prop := (y = .nilS ∧ l = []) ∨ ∃ k,k ≠ io ∧ y = .sl (.own k 0) l.length 2 false ∧ G[k]? = some (some (.row (flatS l)))
theorem OwnSp.sl {io : Nat} {G : Heap} {y : AV} {l : List Span} (a : OwnSp io G y l) : Sl w0 G 2 y (l.map Span.c) := by
  rcases a with ⟨rfl,rfl⟩ | ⟨k,_,rfl,h2⟩
  · exact .inl ⟨rfl,rfl⟩
  · have := Sl_own (w0 := w0) (H := G) (full := false) (io := k) (rows := l.map Span.c) (es := 2) h2 (sp_len _)
    rwa [List.length_map] at this
theorem OwnSp.sub {io : Nat} {G H : Heap} {y : AV} {l : List Span} (a : OwnSp io G y l) (s : HSub G H) : OwnSp io H y l := by
  rcases a with h1 | ⟨k,h0,h1,h2⟩
  · exact .inl h1
  · exact .inr ⟨k,h0,h1,s.2 _ _ h2⟩
theorem OwnSp.set {io : Nat} {G : Heap} {y : AV} {l : List Span} {x : Option Blk} (a : OwnSp io G y l) : OwnSp io (G.set io x) y l := by
  rcases a with h1 | ⟨k,h0,h1,h2⟩
  · exact .inl h1
  · exact .inr ⟨k,h0,h1,by rw [List.getElem?_set_ne (Ne.symm h0)]; exact h2⟩
theorem Gro.ownSp {io : Nat} {H : Heap} {y : AV} {l : List Span} (a : Gro h H 2 l.length y (flatS l)) (hi : io < h.length) : OwnSp io H y l := by
  rcases a.own with ⟨h1,h2,h3⟩ | ⟨k,h1,h2,h3,h4,_⟩
  · exact .inl ⟨h2,List.length_eq_zero_iff.1 h1⟩
  · exact .inr ⟨k,by omega,h3,h4⟩
theorem spansD_len {r : Nat → Bool} : (spansD (rowB r)).length < 1000000 := by
  have h1 : ∀ k,k ≤ 1441 → (spL 0 [] ((rowB r).take k)).length ≤ k := by
    intro k hk
    induction k with
    | zero => simp [spL]
    | succ k ih =>
      have i := ih (by omega)
      have hl : (rowB r)[k]? = some (r k) := by rw [rowB,List.getElem?_map,List.getElem?_range (by omega)]; rfl
      rw [List.take_add_one,hl,Option.toList,spL_snoc]
      split
      · exact Nat.le_trans addT_len (by omega)
      · omega
  have h2 := h1 1441 (Nat.le_refl _)
  rw [List.take_of_length_le (by simp [rowB])] at h2
  exact Nat.lt_of_le_of_lt h2 (by decide)
theorem rdepart_c (c : ChainD) (v : ChainV) (hR : ChainR w0 h c v) (hB : chainB c = true) : ACall Try.prog w0 20 [.agg (chainC v)] h fun y H => HSub h H ∧ LS w0 H y (departD c) := by
  refine ACall_sx hmix mf20_ok mf20_b mf20_g (Nat.le_of_ble_eq_true rfl) fun hb ha => ex_in ?_
  have bs := chainB_spec hB
  have o1 := hR.stops.one.1
  have o2 := hR.legs.one.1
  have l2 := hR.legs.use.1
  simp only [List.length_map] at l2
  obtain ⟨n,en⟩ : ∃ n,c.legs.length = n := ⟨_,rfl⟩
  rw [en] at l2
  have hb1 : n ≤ n ∧ n * 25 ≤ 1099511627776 := ⟨Nat.le_refl _,by omega⟩
  have hI : I64 ((n : Int) - 1) := (by unfold I64; omega)
  simp only [go_sem,mf20,o1,o2,l2,hb1,reps_nil,beq_self_eq_true,hI]
  refine lp_ind (S := Nat × Heap × AV × List AV) (F := fun s => [(1,.ptr (.own h.length 0)),(3,.sl (.own (h.length + 1) 0) n 1 true),(4,s.2.2.1),(5,.int .i64 ((n : Int) - 1 - s.1))])
    (H := fun s => s.2.1) (meas := fun s => n - s.1)
    (Inv := fun s => s.1 ≤ n ∧ HSub h s.2.1 ∧ s.2.1[h.length]? = some (some (.row [v.sv,v.lv])) ∧ s.2.1[h.length + 1]? = some (some (.row s.2.2.2)) ∧ s.2.2.2.length = n
      ∧ (∀ j,n - s.1 ≤ j → j < n → ∃ y,s.2.2.2[j]? = some y ∧ OwnSp (h.length + 1) s.2.1 y (spansD (rowB (goodT c j))))
      ∧ (if s.1 = 0 then s.2.2.1 = .nilS else OwnSp (h.length + 1) s.2.1 s.2.2.1 (spansD (rowB (goodT c (n - s.1))))))
    (0,_,.nilS,List.replicate n .nilS) ⟨Nat.zero_le _,HSub.refl.app,by simp,by simp,by simp,fun j h1 h2 => by simp only at h1; omega,by simp⟩ (by simp) rfl ?_
  rintro ⟨k,G,nv,vs⟩ ⟨hk,hs,g0,g1,hvl,hvs,hnv⟩ ih
  simp only at hk hs g0 g1 hvl hvs hnv ih
  refine lp_step hmix L20_0_g [1,3,4,5] L20_0.eq_1 ?_
  have b0 : ∀ L,(G ++ L)[h.length]? = some (some (.row [v.sv,v.lv])) := fun L => getElem?_app_left g0
  have b0' := b0 []
  rw [List.append_nil] at b0'
  by_cases hkn : k < n
  · obtain ⟨i,ei⟩ : ∃ i : Nat,(n : Int) - 1 - k = i := ⟨n - 1 - k,by omega⟩
    have e1 : (0 : Int) ≤ (i : Int) := by omega
    have hin : i < n := by omega
    simp only [ei]
    simp only [go_sem,e1,b0,b0',o1,o2]
    obtain ⟨next,en2⟩ : ∃ next,next = if k = 0 then [] else spansD (rowB (goodT c (n - k))) := ⟨_,rfl⟩
    have hnx : i + 1 < c.legs.length → next = spansD (rowB (goodT c (i + 1))) := fun e => by
      rw [en2,if_neg (by omega),show n - k = i + 1 by omega]
    have hnl : next.length < 1000000 := by
      rw [en2]; split
      · simp
      · exact spansD_len
    have hnv2 : Sl w0 G 2 nv (next.map Span.c) := by
      rw [en2]
      by_cases hk0 : k = 0
      · rw [if_pos hk0] at hnv ⊢; rw [hnv]; exact .inl ⟨rfl,rfl⟩
      · rw [if_neg hk0] at hnv ⊢; exact hnv.sl
    refine rvC_post (ACall.vc (first := []) (args := [.agg [v.sv,v.lv],.int .i64 i,nv]) (rgood_c c v i next nv (hR.sub hs) hB (by omega) hnv2 hnl)) ?_
    intro y H2 hy
    rw [rgoodD_eq hB (by omega) hnx] at hy
    have hio := hy.ownSp (io := h.length + 1) (get_lt g1)
    have s2 := hy.sub
    have o3 := (hio.sl (w0 := w0)).one
    have g12 := s2.2 _ _ g1
    have i1 : idxsV 1 (.sl (.own (h.length + 1) 0) n 1 true) (some i) = some (.ptr (.own (h.length + 1) (i * 1))) := by simp [idxsV,esOk,hin,Pl.add]
    rw [Nat.mul_one] at i1
    have hlt : i + 1 ≤ vs.length := by omega
    simp only [go_sem,i1,o3.1,o3.2,g12,hlt]
    refine ⟨(by unfold I64; omega),?_⟩
    have hlen2 : (vs.take i ++ y :: vs.drop (i + 1)).length = n := by simp; omega
    have hget : ∀ j,(vs.take i ++ y :: vs.drop (i + 1))[j]? = if j = i then some y else vs[j]? := fun j => by
      have : vs.take i ++ y :: vs.drop (i + 1) = vs.set i y := by rw [List.set_eq_take_append_cons_drop,if_pos (by omega)]
      rw [this,List.getElem?_set]
      by_cases e : i = j
      · rw [if_pos e,if_pos (by omega),if_pos e.symm]
      · rw [if_neg e,if_neg (Ne.symm e)]
    have := ih (k + 1,H2.set (h.length + 1) (some (.row (vs.take i ++ y :: vs.drop (i + 1)))),y,vs.take i ++ y :: vs.drop (i + 1)) ⟨by simp only; omega,(hs.trans s2).setR (by omega),by
        simp only; rw [List.getElem?_set_ne (by omega)]; exact s2.2 _ _ g0,by simp only; rw [List.getElem?_set_self (get_lt g12)],hlen2,fun j h1 h2 => by
          simp only at h1 ⊢
          rw [hget]
          by_cases e : j = i
          · rw [if_pos e,e]; exact ⟨y,rfl,hio.set⟩
          · rw [if_neg e]
            obtain ⟨z,z1,z2⟩ := hvs j (by omega) h2
            exact ⟨z,z1,(z2.sub s2).set⟩,by
        simp only; rw [if_neg (by omega),show n - (k + 1) = i by omega]; exact hio.set⟩ (by simp only; omega)
    rw [show (n : Int) - 1 - ((k + 1 : Nat) : Int) = (i : Int) - 1 by omega] at this
    exact this
  · have e1 : ¬ (0 : Int) ≤ (n : Int) - 1 - k := by omega
    simp only [go_sem,e1]
    refine ⟨hs,vs.map fun z => [z],by rw [List.length_map,hvl,departD_len,en],Sl_one g1 hvl.symm,fun j x z hx hz => ?_⟩
    have hj : j < (departD c).length := get_some_lt hx
    rw [departD_len,en] at hj
    obtain ⟨y,y1,y2⟩ := hvs j (by omega) hj
    rw [List.getElem?_map,y1] at hz
    cases hz
    rw [departD,List.getElem?_map,List.getElem?_range (by omega)] at hx
    simp only [Option.map_some,Option.some.injEq] at hx
    subst hx
    exact ⟨y,rfl,y2.sl⟩
end Go.Proofs.Ab
namespace Go.Proofs.Ab
open Go Go.Proofs
variable {w : World} {h : Heap} {cs : List Value}
def spanRw : Rw := .int (.int .nil)
def stopRw : Rw := .sl spanRw (.int .nil)
def chainRw : Rw := .sl stopRw (.sl spanRw .nil)
theorem span_of (g : Gd w spanRw cs) : ∃ s : Span,cs.map inj = s.c ∧ I64 s.low ∧ I64 s.high := by
  obtain ⟨a,_,rfl,h1,b,_,rfl,h2,rfl⟩ := g
  exact ⟨⟨a,b⟩,rfl,h1,h2⟩
theorem zip_stops (l : List (AV × StopD)) : stopRows (l.map Prod.fst) (l.map Prod.snd) = l.map fun x => stopC x.1 x.2 := by
  induction l with
  | nil => rfl
  | cons a l ih => simp only [stopRows,List.map_cons,List.zipWith_cons_cons] at ih ⊢; rw [ih]
theorem chain_of (g : Gd w chainRw cs) : ∃ (c : ChainD) (v : ChainV),cs.map inj = chainC v ∧ ChainS w h c v ∧ c.stops.length ≤ 9223372036854775807 := by
  obtain ⟨v0,_,rfl,g0,v1,_,rfl,g1,rfl⟩ := g
  obtain ⟨rows,h1,h2,h3⟩ := rows_of (h := h) g0
  obtain ⟨l,rfl,hl⟩ := rows_map (f := fun x : AV × StopD => stopC x.1 x.2) (p := fun x => Sl w h 2 x.1 (x.2.windows.map Span.c)) (rows := rows) fun c hc => by
    obtain ⟨cs,rfl,u,_,rfl,g2,n,_,rfl,_,rfl⟩ := h3 c hc
    obtain ⟨q,hq,_⟩ := slice_of (h := h) Span.c rfl g2 fun _ g => by
      obtain ⟨a,x,_⟩ := span_of g
      exact ⟨a,x⟩
    exact ⟨(inj u,⟨q,n⟩),rfl,hq⟩
  obtain ⟨l1,s1,_⟩ := slice_of (h := h) Span.c rfl g1 fun _ g => by
    obtain ⟨a,x,_⟩ := span_of g
    exact ⟨a,x⟩
  refine ⟨⟨l.map Prod.snd,l1⟩,⟨inj v0,inj v1,l.map Prod.fst⟩,rfl,⟨by simp,?_,?_,s1⟩,by simpa using h2⟩
  · rw [zip_stops]; exact h1
  · intro j x s hx hs
    simp only [List.getElem?_map,Option.map_eq_some_iff] at hx hs
    obtain ⟨a,a1,rfl⟩ := hx
    obtain ⟨b,b1,rfl⟩ := hs
    rw [a1] at b1; cases b1
    exact hl _ (List.mem_of_getElem? a1)
theorem int_of {v : Value} (g : Gd w (.int .nil) [v]) : ∃ n : Int,inj v = .int .i64 n ∧ I64 n := by
  obtain ⟨n,_,e,h,rfl⟩ := g
  cases e; exact ⟨n,rfl,h⟩
theorem list_of {v : Value} (g : Gd w (.sl (.int .nil) .nil) [v]) : ∃ l : List Int,SlI w h (inj v) l ∧ l.length ≤ 9223372036854775807 := by
  obtain ⟨_,_,e,h,rfl⟩ := g
  cases e; exact ints_of h
end Go.Proofs.Ab
namespace Go.Proofs.Ab
open Go Go.Proofs
variable {w0 : World} {h : Heap}
attribute [local irreducible] ACall ACallV AYield DCall DCallV rvC rdC lp rg dr ex un rv rd'
end Go.Proofs.Ab
namespace Go.Proofs.Ab
open Go Go.Proofs
variable {w0 : World} {h : Heap}
attribute [local irreducible] ACall ACallV AYield DCall DCallV rvC rdC lp rg dr ex un rv rd'
theorem nextD_neg {l : List Span} {m : Int} (h : ∀ s ∈ l,0 ≤ s.low ∧ s.low ≤ s.high) (hm : m < 0) : nextD l m = nextD l 0 := by
  cases l with
  | nil => rfl
  | cons a l =>
    have := h a List.mem_cons_self
    have h1 : m ≤ a.high := by omega
    have h2 : (0 : Int) ≤ a.high := by omega
    simp only [nextD,h1,h2,if_true]; omega
theorem next_spans' {r : Nat → Bool} {m : Int} : nextD (spansD (rowB r)) m = fromD r m := by
  by_cases hm : 0 ≤ m
  · exact next_spans hm
  · have h1 : nextD (spansD (rowB r)) m = nextD (spansD (rowB r)) 0 := nextD_neg (fun s hs => by have := (spans_I r).bd s hs; omega) (by omega)
    have key : ∀ t : Nat,decide (m ≤ (t : Int)) = decide ((0 : Int) ≤ (t : Int)) := fun t => by rw [decide_eq_true (by omega),decide_eq_true (by omega)]
    have h2 : fromD r m = fromD r 0 := by unfold fromD; simp only [key]
    rw [h1,h2,next_spans (Int.le_refl 0)]
theorem departD_at {c : ChainD} {i : Nat} (hi : i < c.legs.length) : ∀ (h : i < (departD c).length),(departD c)[i] = spansD (rowB (goodT c i)) := fun h => departD_get h
theorem rflown_c (c : ChainD) (v : ChainV) (legs : List Int) (lv : AV) (hR : ChainR w0 h c v) (hl : SlI w0 h lv legs) (hn : legs.length < 1000000) : DCall Try.prog w0 24 [.agg (chainC v),lv] h (.bool (decide (legs.length = c.legs.length) && flownB c legs)) h := by
  refine DCall_quiet hmix mf24_ok mf24_b mf24_g (Nat.le_of_ble_eq_true rfl) (by simp [AV.bdd,AV.bdds]) fun hb ha => ex_in ?_
  have o1 := hR.stops.one.1
  have o2 := hR.legs.one.1
  have l2 := hR.legs.use.1
  simp only [List.length_map] at l2
  have hll := hR.ll
  obtain ⟨l3,q,q1,q2⟩ := SlI.use hl
  simp only [go_sem,mf24,o1,o2]
  refine lp_all (fun j => [(1,lv),(2,.ptr (.own h.length 0)),(5,.int .i64 j)]) (fun j => inB (legs.getD j 0) (legD c j).low (legD c j).high = true) (min legs.length c.legs.length) rfl (fun j hj hi ih => ?_) (fun hall => ?_)
  · refine lp_step hmix L24_0_g [1,2,5] L24_0.eq_1 ?_
    have j1 : j < legs.length := by omega
    have j2 : j < c.legs.length := by omega
    have e1 : (j : Int) < legs.length := by omega
    have e2 : (j : Int) < c.legs.length := by omega
    obtain ⟨p,p1,p2⟩ := hR.leg (j := j) j2
    obtain ⟨s,es⟩ : ∃ s,c.legs[j] = s := ⟨_,rfl⟩
    rw [es] at p2
    have gs : legD c j = s := by rw [legD,getD_at j2,es]
    have t1 : ∀ L,rd w0 (h ++ L) (p.add 0) = some (.int .i64 s.low) := fun L => rd_get (p2 L) rfl
    have t2 : ∀ L,rd w0 (h ++ L) (p.add 1) = some (.int .i64 s.high) := fun L => rd_get (p2 L) rfl
    have q1' := q1 j j1
    have q2' := q2 j j1
    have gl : legs.getD j 0 = legs[j] := getD_at j1
    have no : inB legs[j] s.low s.high = false → (decide (legs.length = c.legs.length) && flownB c legs) = false := fun e => by
      have : flownB c legs = false := List.all_eq_false.2 ⟨j,List.mem_range.2 j1,by rw [gl,gs,e]; simp⟩
      rw [this,Bool.and_false]
    simp only [go_sem,l3,l2,e1,e2,p1,t1,t2,q1',q2']
    refine ⟨fun a1 => ⟨fun a2 => ?_,fun a2 => ⟨(by unfold I64; omega),ih ?_⟩⟩,fun a1 => ?_⟩
    · rw [no (by simp [inB]; omega)]
    · rw [gl,gs]; simp [inB]; omega
    · rw [no (by simp [inB]; omega)]
  · refine lp_step hmix L24_0_g [1,2,5] L24_0.eq_1 ?_
    by_cases hle : legs.length ≤ c.legs.length
    · rw [Nat.min_eq_left hle] at hall ⊢
      have x1 : ¬ (legs.length : Int) < legs.length := by omega
      simp only [go_sem,l3,l2,x1]
      have : flownB c legs = true := all_range_iff.2 hall
      have e2 : ((legs.length : Int) == (c.legs.length : Int)) = decide (legs.length = c.legs.length) := by
        rw [Bool.eq_iff_iff]; simp; omega
      rw [this,Bool.and_true,e2]
    · rw [Nat.min_eq_right (by omega)] at hall ⊢
      have x1 : (c.legs.length : Int) < legs.length := by omega
      have x2 : ¬ (c.legs.length : Int) < c.legs.length := by omega
      have x3 : ¬ (legs.length : Int) = (c.legs.length : Int) := by omega
      have x4 : ¬ legs.length = c.legs.length := by omega
      simp only [go_sem,l3,l2,x1,x2]
      simp [x4]; omega
theorem rride_c (c : ChainD) (v : ChainV) (gv : AV) (m : Int) (legs : List Int) (lv : AV) (hR : ChainR w0 h c v) (hB : chainB c = true) (hg : LS w0 h gv (departD c)) (hl : SlI w0 h lv legs) (hln : legs.length = c.legs.length) (hf : flownB c legs = true) (hm : 0 ≤ m ∧ m ≤ 1440) :
    ACall Try.prog w0 27 [.agg (chainC v),gv,.int .i64 m,lv] h fun y H => HSub h H ∧ SlI w0 H y (rideD c m legs) := by
  refine ACall_sx hmix mf27_ok mf27_b mf27_g (Nat.le_of_ble_eq_true rfl) fun hb ha => ex_in ?_
  have bs := chainB_spec hB
  have o1 := hR.stops.one.1
  have o2 := hR.legs.one.1
  have l3 := hl.use.1
  obtain ⟨n,en⟩ : ∃ n,c.legs.length = n := ⟨_,rfl⟩
  have hlegs : ∀ j (hj : j < legs.length),0 ≤ legs[j] ∧ legs[j] ≤ 300 := fun j hj => by
    have h1 := (all_range_iff.1 hf) j hj
    have hj2 : j < c.legs.length := by omega
    simp only [inB,getD_at hj,legD,getD_at hj2,Bool.and_eq_true,decide_eq_true_eq] at h1
    have := bs.2.2.2.2 c.legs[j] (List.getElem_mem hj2)
    omega
  simp only [go_sem,mf27,o1,o2]
  refine lp_ind (S := Nat × Int × Heap × Nat × Bool × List Int) (F := fun s => [(1,gv),(2,.int .i64 s.2.1),(3,lv),(4,.ptr (.own h.length 0)),(9,.sl (.own s.2.2.2.1 0) s.2.2.2.2.2.length 1 s.2.2.2.2.1),(10,.int .i64 s.1)])
    (H := fun s => s.2.2.1) (meas := fun s => n - s.1)
    (Inv := fun s => s.1 ≤ n ∧ (s.1 < n → -1 ≤ s.2.1 ∧ s.2.1 ≤ 1440) ∧ HSub (h ++ [some (.row (chainC v))]) (s.2.2.1.set s.2.2.2.1 none) ∧ s.2.2.1[s.2.2.2.1]? = some (some (.row (ints s.2.2.2.2.2))) ∧ (s.2.2.2.2.2 ≠ [] ∧ s.2.2.2.2.2.length ≤ 2 * s.1 + 1) ∧ s.2.2.2.2.2 ++ rideL c s.1 s.2.1 (legs.drop s.1) = rideD c m legs)
    (0,m,h ++ [some (.row (chainC v)),some (.row [.int .i64 m])],h.length + 1,true,[m]) ⟨Nat.zero_le _,by simp only; omega,⟨by simp,fun i b e => by
      have hlt := get_lt e
      simp only [List.length_append,List.length_singleton] at hlt ⊢
      rw [List.getElem?_set_ne (by omega)]
      rw [show h ++ [some (.row (chainC v)),some (.row [AV.int .i64 m])] = (h ++ [some (.row (chainC v))]) ++ [some (.row [AV.int .i64 m])] by simp]
      exact getElem?_app_left e⟩,by simp [ints],by simp,by simp [rideD]⟩ (by simp) rfl ?_
  rintro ⟨i,mm,G,io,fu,out⟩ ⟨hi,hmm,hs,hio,hout,hride⟩ ih
  simp only at hi hmm hs hio hout hride ih
  have hs' : HSub h G := HSub.refl.app.trans (hs.trans HSub.msk)
  have hbx : G[h.length]? = some (some (.row (chainC v))) := (hs.trans HSub.msk).2 _ _ (by simp)
  refine lp_step hmix L27_0_g [1,2,3,4,9,10] L27_0.eq_1 ?_
  by_cases hin : i < n
  · have e6 : (i : Int) < legs.length := by omega
    have hli : i < legs.length := by omega
    have hd := hlegs i hli
    obtain ⟨_,q,q1,q2⟩ := (SlI.use (hl.sub hs'))
    have q1' := q1 i hli
    have q2' := q2 i hli
    have q2'' := q2' []
    rw [List.append_nil] at q2''
    obtain ⟨G2,a1,a2,a3⟩ := ride_push (w0 := w0) (fu := fu) (mm + legs[i]) hs hio hout.1 (by omega)
    have a3' : HSub (h ++ [some (.row (chainC v))]) G2 := a3.trans HSub.msk
    have a3'' : HSub h G2 := HSub.refl.app.trans a3'
    have hbx2 : ∀ L,(G2 ++ L)[h.length]? = some (some (.row (chainC v))) := fun L => getElem?_app_left (a3'.2 _ _ (by simp))
    have hbx2' := hbx2 []
    rw [List.append_nil] at hbx2'
    have hdrop : legs.drop i = legs[i] :: legs.drop (i + 1) := List.drop_eq_getElem_cons hli
    rw [hdrop,rideL] at hride
    simp only [go_sem,e6,q1',q2',q2'',l3,a1]
    refine ⟨(by unfold I64; omega),(by unfold I64; omega),fun e7 => ?_,fun e7 => ?_⟩
    · have hi1 : i + 1 < n := by omega
      obtain ⟨p,x,p1,p2,p3⟩ := (hR.sub a3'').stop (j := i + 1) (by omega)
      obtain ⟨s,es⟩ : ∃ s,c.stops[i + 1]'(by omega) = s := ⟨_,rfl⟩
      rw [es] at p2 p3
      have gs : stopD c (i + 1) = s := by rw [stopD,getD_at (by omega),es]
      have hst := bs.2.2.2.1 s (es ▸ List.getElem_mem (by omega))
      have d2 : (if 0 ≤ (i : Int) + 1 then some ((i : Int) + 1).toNat else none) = some (i + 1) := by rw [if_pos (by omega)]; congr 1
      obtain ⟨p4,x4,i4,r4,q4⟩ := (hg.sub a3'').at_ (j := i + 1) (by rw [departD_len]; omega)
      rw [departD_at (by omega)] at q4
      have r3 : ∀ L,rd w0 (G2 ++ L) (p.add 1) = some (.int .i64 s.turn) := fun L => rd_get (p2 L) rfl
      have r3' := r3 []
      have r4' := r4 []
      rw [List.append_nil] at r3' r4'
      simp only [go_sem,d2,i4,r4,r4',hbx2,hbx2',p1,r3,r3']
      refine ⟨(by unfold I64; omega),(by unfold I64; omega),(by unfold I64; omega),?_⟩
      refine rdC_q (rnext_c (spansD (rowB (goodT c (i + 1)))) x4 (mm + legs[i] + s.turn) q4 spansD_len).v ?_
      rw [next_spans']
      have hfb := fromD_bd (row := goodT c (i + 1)) (m := mm + legs[i] + s.turn)
      obtain ⟨G3,b1,b2,b3⟩ := ride_push (w0 := w0) (fu := false) (fromD (goodT c (i + 1)) (mm + legs[i] + s.turn)) a3 a2 (by simp) (by simp; omega)
      rw [List.length_append,List.length_singleton] at b1
      simp only [go_sem,b1]
      rw [if_pos (by omega),gs] at hride
      have := ih (i + 1,fromD (goodT c (i + 1)) (mm + legs[i] + s.turn),G3,_,false,out ++ [mm + legs[i]] ++ [fromD (goodT c (i + 1)) (mm + legs[i] + s.turn)]) ⟨by simp only; omega,by simp only; omega,b3,b2,⟨by simp,by simp; omega⟩,by
        simp only [← hride,List.append_assoc,List.cons_append,List.nil_append]⟩ (by simp only; omega)
      exact ⟨(by unfold I64; omega),by simpa using this⟩
    · rw [if_neg (by omega)] at hride
      have := ih (i + 1,mm + legs[i],G2,_,false,out ++ [mm + legs[i]]) ⟨by simp only; omega,by simp only; omega,a3,a2,⟨by simp,by simp; omega⟩,by
        simp only [← hride,List.append_assoc,List.cons_append,List.nil_append]⟩ (by simp only; omega)
      exact ⟨(by unfold I64; omega),by simpa using this⟩
  · obtain rfl : i = n := by omega
    have e6 : ¬ (i : Int) < legs.length := by omega
    simp only [go_sem,l3,e6]
    rw [List.drop_eq_nil_of_le (by omega)] at hride
    simp only [rideL,List.append_nil] at hride
    refine ⟨hs',?_⟩
    rw [← hride]
    have := Sl_own (w0 := w0) (full := fu) (rows := out.map fun z => [AV.int .i64 z]) (by rw [← ints_flat]; exact hio) (es := 1) (fun c hc => by obtain ⟨x,_,rfl⟩ := List.mem_map.1 hc; rfl)
    rw [List.length_map] at this
    exact this
theorem rmiss_c (c : ChainD) (v : ChainV) (gv : AV) (i : Nat) (m : Int) (hR : ChainR w0 h c v) (hB : chainB c = true) (hg : LS w0 h gv (departD c)) (hi : i < c.legs.length) (hm : 0 ≤ m ∧ m ≤ 1440) : DCall Try.prog w0 28 [.agg (chainC v),gv,.int .i64 i,.int .i64 m] h (.int .i64 (missD c i m)) h := by
  refine DCall_quiet hmix mf28_ok mf28_b mf28_g (Nat.le_of_ble_eq_true rfl) (by simp [AV.bdd,AV.bdds]) fun hb ha => ex_in ?_
  have bs := chainB_spec hB
  have o1 := hR.stops.one.1
  have o2 := hR.legs.one.1
  obtain ⟨pl,px,pl1,pl2,pl3⟩ := hR.stop (j := i) (by omega)
  obtain ⟨s,es⟩ : ∃ s,c.stops[i]'(by omega) = s := ⟨_,rfl⟩
  rw [es] at pl2 pl3
  have gs : stopD c i = s := by rw [stopD,getD_at (by omega),es]
  have hs := bs.2.2.2.1 s (es ▸ List.getElem_mem (by omega))
  have t1 : ∀ L,rd w0 (h ++ L) (pl.add 0) = some px := fun L => rd_get (pl2 L) rfl
  obtain ⟨gl,gl1,gl2⟩ := hR.leg (j := i) hi
  obtain ⟨g,eg⟩ : ∃ g,c.legs[i] = g := ⟨_,rfl⟩
  rw [eg] at gl2
  have gg : legD c i = g := by rw [legD,getD_at hi,eg]
  have hgb := bs.2.2.2.2 g (eg ▸ List.getElem_mem hi)
  have u1 : ∀ L,rd w0 (h ++ L) (gl.add 0) = some (.int .i64 g.low) := fun L => rd_get (gl2 L) rfl
  have u2 : ∀ L,rd w0 (h ++ L) (gl.add 1) = some (.int .i64 g.high) := fun L => rd_get (gl2 L) rfl
  have ln := NS.len hg
  rw [departD_len] at ln
  simp only [go_sem,mf28,o1,o2,pl1,t1]
  refine rvC_use (rwithin_c s.windows px m pl3.app (by omega)).v ?_
  cases e1 : within s.windows m with
  | false => simp only [go_sem]; simp [missD,gs,e1]
  | true =>
    obtain ⟨n,en⟩ : ∃ n,n = (g.high - g.low + 1).toNat := ⟨_,rfl⟩
    have hmiss : missD c i m = firstBad (goesD c i (goodT c (i + 1))) m n g.low := by simp [missD,gs,e1,failsD,gg,en]
    have hI : I64 ((i : Int) + 1) := (by unfold I64; omega)
    have loop : ∀ (nv : AV) (next : List Span),Sl w0 h 2 nv (next.map Span.c) → next.length < 1000000 → (i + 1 < c.legs.length → next = spansD (rowB (goodT c (i + 1)))) →
        lp Try.prog w0 none 54 h.length (quietK w0 [RV.t 8] h (.int .i64 (missD c i m))) L28_0 [It.inBlk 0,It.code (.seq (.reg [o_ 8 (.mov (i_ (-1)))]) .ret)] [(2,.int .i64 i),(3,.int .i64 m),(4,.ptr (.own h.length 0)),(9,nv),(10,.int .i64 g.low)] (h ++ [some (.row [v.sv,v.lv])]) := fun nv next hv hnl hnx => by
      refine lp_ind (S := Nat) (F := fun k => [(2,.int .i64 i),(3,.int .i64 m),(4,.ptr (.own h.length 0)),(9,nv),(10,.int .i64 (g.low + k))]) (H := fun _ => h ++ [some (.row [v.sv,v.lv])]) (meas := fun k => n - k)
        (Inv := fun k => k ≤ n ∧ missD c i m = firstBad (goesD c i (goodT c (i + 1))) m (n - k) (g.low + k)) 0 ⟨Nat.zero_le _,by simpa using hmiss⟩ (by simp) rfl ?_
      rintro k ⟨hk,hr⟩ ih
      refine lp_step hmix L28_0_g [2,3,4,9,10] L28_0.eq_1 ?_
      by_cases hkn : k < n
      · have e3 : g.low + (k : Int) ≤ g.high := by omega
        have hI2 : I64 (m + (g.low + (k : Int))) := (by unfold I64; omega)
        simp only [go_sem,gl1,u2,e3,o1,o2,hI2]
        refine rvC_use (rfails_c c v i (m + (g.low + (k : Int))) next nv hR.app hB hi (by omega) hv.app hnl).v ?_
        rw [fails_goes hB hi hnx (by omega)]
        rw [show n - k = (n - (k + 1)) + 1 by omega,firstBad] at hr
        cases e4 : goesD c i (goodT c (i + 1)) (m + (g.low + (k : Int))) with
        | false =>
          rw [e4,if_neg (by simp)] at hr
          simp only [go_sem]
          rw [hr]
        | true =>
          rw [e4,if_pos rfl] at hr
          simp only [go_sem]
          have := ih (k + 1) ⟨by omega,by rw [hr,show g.low + ((k + 1 : Nat) : Int) = g.low + (k : Int) + 1 by omega]⟩ (by omega)
          refine ⟨(by unfold I64; omega),?_⟩
          simpa [Int.add_assoc] using this
      · have e3 : ¬ g.low + (k : Int) ≤ g.high := by omega
        simp only [go_sem,gl1,u2,e3]
        rw [hr,show n - k = 0 by omega]; rfl
    by_cases hin : i + 1 < c.legs.length
    · have e2 : (i : Int) + 1 < c.legs.length := by omega
      have d1 : asNat (.int .i64 ((i : Int) + 1)) = some (i + 1) := by rw [show (i : Int) + 1 = ((i + 1 : Nat) : Int) by omega]; exact asNat_n
      have d2 : (if 0 ≤ (i : Int) + 1 then some ((i : Int) + 1).toNat else none) = some (i + 1) := by rw [if_pos (by omega)]; congr 1
      obtain ⟨p1,x1,i1,r1,q1⟩ := hg.at_ (j := i + 1) (by rw [departD_len]; exact hin)
      rw [departD_at hin] at q1
      simp only [go_sem,ln,hI,e2,d1,d2,i1,r1,gl1,u1]
      exact loop x1 _ q1 spansD_len fun _ => rfl
    · have e2 : ¬ (i : Int) + 1 < c.legs.length := by omega
      simp only [go_sem,ln,hI,e2,gl1,u1]
      exact loop .nilS [] (.inl ⟨rfl,rfl⟩) (by simp) fun e => absurd e hin
end Go.Proofs.Ab
namespace Go.Proofs.Ab
open Go Go.Proofs
variable {w0 : World} {h : Heap}
attribute [local irreducible] ACall ACallV AYield DCall DCallV rvC rdC lp rg dr ex un rv rd'
theorem rvC_tail {r : Option Nat} {nt Z : Nat} {Q : Exit → Fr → Heap → Prop} {l : List MIx} {d : Option Nat} {f : AV} {as_ : List AV} {a t : It} {fr : Fr} {H : Heap} (R : Fr → Heap → Prop) (tail : ∀ fr H,R fr H → un Try.prog w0 r nt Z Q .normal [t] fr H)
    (main : ∀ T,(∀ fr H,R fr H → un Try.prog w0 r nt Z Q .normal [T] fr H) → rvC Try.prog w0 r nt Z Q f as_ d l [a,T] fr H) : rvC Try.prog w0 r nt Z Q f as_ d l [a,t] fr H := main t tail
theorem within_dep {c : ChainD} {i : Nat} {m : Int} (hm : 0 ≤ m ∧ m ≤ 1440) : within (spansD (rowB (goodT c i))) m = goodT c i m.toNat := by
  obtain ⟨k,rfl⟩ : ∃ k : Nat,m = k := ⟨m.toNat,by omega⟩
  rw [within_spans,decide_eq_true (by omega)]; simp
theorem HopRides_c (c : ChainD) (v : ChainV) (m : Int) (legs : List Int) (lv : AV) (st : Int) (hS : ChainS w0 h c v) (hl : c.stops.length ≤ 9223372036854775807) (hlv : SlI w0 h lv legs) : DCall Try.prog w0 4 [.agg (chainC v),.int .i64 m,lv,.int .i64 st] h (.bool true) h := by
  refine DCall_forget trivial (ACall_sx hmix mf4_ok mf4_b mf4_g (Nat.le_of_ble_eq_true rfl) fun hb ha => ex_in ?_)
  have o1 := hS.stops.one.1
  have o2 := hS.legs.one.1
  have l3 := (SlI.use hlv).1
  simp only [go_sem,mf4,o1,o2]
  refine rvC_use (brief_c c v hS.app hl).v ?_
  cases e1 : briefB c with
  | false =>
    simp only [go_sem,l3]
    refine rvC_use known_c.v ?_
    simp only [go_sem]
    exact HSub.refl.app
  | true =>
    have hR := hS.R e1
    obtain ⟨H0,eH0⟩ : ∃ H0 : Heap,H0 = h ++ [some (.row [v.sv,v.lv])] := ⟨_,rfl⟩
    have s0 : HSub h H0 := eH0 ▸ HSub.refl.app
    have g0 : H0[h.length]? = some (some (.row [v.sv,v.lv])) := by rw [eH0]; simp
    have b0 : ∀ L,(H0 ++ L)[h.length]? = some (some (.row [v.sv,v.lv])) := fun L => getElem?_app_left g0
    simp only [go_sem,o1,o2,l3]
    rw [← eH0]
    refine ⟨fun e2 => ?_,fun e2 => ?_⟩
    · refine rvC_use known_c.v ?_
      simp only [go_sem]
      exact s0
    have hln : legs.length < 1000000 := by omega
    refine rvC_post (ACall.vc (first := []) (args := [.agg (chainC v),.int .i64 m,lv]) (Ride_c c v m legs lv (hR.sub s0) (Sl.sub hlv s0) hln)) ?_
    rintro y H1 ⟨s1,hK⟩
    have t1 := s0.trans s1
    have g1 := s1.2 _ _ g0
    have b1 : ∀ L,(H1 ++ L)[h.length]? = some (some (.row [v.sv,v.lv])) := fun L => getElem?_app_left g1
    have hy : ∃ lx e,y = .tup [lx,.int .i64 e] ∧ ((chainB c && inB m 0 1440) = false → lx = .nilS ∧ e = 2) ∧ ((chainB c && inB m 0 1440) = true → if (decide (legs.length = c.legs.length) && flownB c legs) = true then (if goodT c 0 m.toNat = true then e = 0 ∧ SlI w0 H1 lx (rideD c m legs) else e = 7 ∧ lx = .nilS) else e = 2 ∧ lx = .nilS) := by
      cases e3 : chainB c && inB m 0 1440 with
      | false =>
        rw [if_neg (by rw [← Bool.and_assoc,e3]; simp)] at hK
        exact ⟨_,_,hK,fun _ => ⟨rfl,rfl⟩,fun e => by cases e⟩
      | true =>
        rw [← Bool.and_assoc,e3,Bool.true_and] at hK
        by_cases e4 : (decide (legs.length = c.legs.length) && flownB c legs) = true
        · rw [if_pos e4] at hK
          by_cases e5 : goodT c 0 m.toNat = true
          · rw [if_pos e5] at hK
            obtain ⟨x,hx,hx2⟩ := hK
            exact ⟨x,0,hx,fun e => (by cases e),fun _ => by rw [if_pos e4,if_pos e5]; exact ⟨rfl,hx2⟩⟩
          · rw [if_neg e5] at hK
            exact ⟨.nilS,7,hK,fun e => (by cases e),fun _ => by rw [if_pos e4,if_neg e5]; exact ⟨rfl,rfl⟩⟩
        · rw [if_neg e4] at hK
          exact ⟨.nilS,2,hK,fun e => (by cases e),fun _ => by rw [if_neg e4]; exact ⟨rfl,rfl⟩⟩
    obtain ⟨lx,e,rfl,hno,hyes⟩ := hy
    simp only [go_sem,g1,b1,o1,o2]
    refine rvC_post (ACall.vc (first := []) (args := [.agg (chainC v),.int .i64 st,.int .i64 m]) (Miss_c c v st m (hR.sub t1))) ?_
    rintro y H2 ⟨s2,hM⟩
    have t2 := t1.trans s2
    have g2 := s2.2 _ _ g1
    have b2 : ∀ L,(H2 ++ L)[h.length]? = some (some (.row [v.sv,v.lv])) := fun L => getElem?_app_left g2
    have hR2 := hR.sub t2
    cases e3 : chainB c && inB m 0 1440 with
    | false =>
      obtain ⟨rfl,rfl⟩ := hno e3
      have hM2 : y = .tup [.int .i64 0,.int .i64 2] := by
        rw [hM,if_neg]
        intro e4
        simp only [Bool.and_eq_true] at e4 e3
        rw [Bool.and_eq_false_iff] at e3
        rcases e3 with e3 | e3
        · rw [e4.1] at e3; cases e3
        · rw [e4.2.2] at e3; cases e3
      subst hM2
      simp only [go_sem,g2,b2,o1,o2]
      refine rvC_use (rchain_c c v hR2).v ?_
      have fin : ∀ fr : Fr,True → True := fun _ h => h
      cases e4 : chainB c with
      | false =>
        simp only [go_sem]
        refine rvC_use known_c.v ?_
        simp only [go_sem]
        exact t2
      | true =>
        rw [e4,Bool.true_and] at e3
        by_cases e5 : 0 ≤ m
        · have e6 : ¬ m ≤ 1440 := fun e => by simp [inB,e5,e] at e3
          simp only [go_sem,e5,e6]
          refine rvC_use known_c.v ?_
          simp only [go_sem]
          exact t2
        · simp only [go_sem,e5]
          refine rvC_use known_c.v ?_
          simp only [go_sem]
          exact t2
    | true =>
      have hB : chainB c = true := (Bool.and_eq_true_iff.1 e3).1
      have hmb : 0 ≤ m ∧ m ≤ 1440 := by simpa [inB] using (Bool.and_eq_true_iff.1 e3).2
      have hmi : inB m 0 1440 = true := (Bool.and_eq_true_iff.1 e3).2
      have bs := chainB_spec hB
      have hyes := hyes e3
      have hT : ∃ mx f,y = .tup [.int .i64 mx,.int .i64 f] ∧ ((¬ (0 ≤ st ∧ st < c.legs.length) ∧ mx = 0 ∧ f = 2) ∨ ∃ i : Nat,st = i ∧ i < c.legs.length ∧ ((goodT c i m.toNat = true ∧ mx = 0 ∧ f = 6) ∨ (goodT c i m.toNat = false ∧ mx = missD c i m ∧ f = 0))) := by
        rw [hB,hmi,Bool.true_and,Bool.and_true] at hM
        by_cases e4 : 0 ≤ st ∧ st < c.legs.length
        · obtain ⟨i,rfl⟩ : ∃ i : Nat,st = i := ⟨st.toNat,by omega⟩
          rw [if_pos (by simp [inB]; omega),Int.toNat_natCast] at hM
          cases e5 : goodT c i m.toNat with
          | true => rw [if_pos e5] at hM; exact ⟨_,_,hM,.inr ⟨i,rfl,by omega,.inl ⟨e5,rfl,rfl⟩⟩⟩
          | false => rw [if_neg (by simp [e5])] at hM; exact ⟨_,_,hM,.inr ⟨i,rfl,by omega,.inr ⟨e5,rfl,rfl⟩⟩⟩
        · rw [if_neg (by simp [inB]; omega)] at hM
          exact ⟨_,_,hM,.inl ⟨e4,rfl,rfl⟩⟩
      obtain ⟨mx,f,rfl,hT⟩ := hT
      simp only [go_sem,g2,b2,o1,o2]
      refine rvC_use (rchain_c c v hR2).v ?_
      rw [hB]
      simp only [go_sem,hmb.1,hmb.2,g2,b2,o1,o2]
      refine rvC_post (ACall.vc (first := []) (args := [.agg (chainC v)]) (rdepart_c c v hR2 hB)) ?_
      rintro gv H3 ⟨s3,hg⟩
      have t3 := t2.trans s3
      have g3 := s3.2 _ _ g2
      have b3 : ∀ L,(H3 ++ L)[h.length]? = some (some (.row [v.sv,v.lv])) := fun L => getElem?_app_left g3
      have hR3 := hR.sub t3
      simp only [go_sem,g3,b3,o1,o2]
      refine rvC_tail (fun fr G => HSub H3 G ∧ fr.get 1 = .int .i64 m ∧ fr.get 3 = .int .i64 st ∧ fr.get 4 = .ptr (.own h.length 0) ∧ fr.get 11 = .int .i64 mx ∧ fr.get 12 = .int .i64 f ∧ fr.get 14 = gv) ?_ ?_
      · rintro fr G ⟨sG,f1,f3,f4,f11,f12,f14⟩
        have gG := sG.2 _ _ g3
        have bG : ∀ L,(G ++ L)[h.length]? = some (some (.row [v.sv,v.lv])) := fun L => getElem?_app_left gG
        have tG := t3.trans sG
        have l2 := (hR.sub tG).legs.use.1
        simp only [List.length_map] at l2
        have hgG := hg.sub sG
        rcases hT with ⟨hT,rfl,rfl⟩ | ⟨i,rfl,hi,hT⟩
        · by_cases y1 : st < 0
          · simp only [go_sem,f1,f3,f4,f11,f12,f14,gG,bG,l2,y1]
            refine rvC_use known_c.v ?_
            simp only [go_sem]
            exact tG
          · have y2 : (c.legs.length : Int) ≤ st := by omega
            simp only [go_sem,f1,f3,f4,f11,f12,f14,gG,bG,l2,y1,y2]
            refine rvC_use known_c.v ?_
            simp only [go_sem]
            exact tG
        · have y1 : ¬ (i : Int) < 0 := by omega
          have y2 : ¬ (c.legs.length : Int) ≤ (i : Int) := by omega
          obtain ⟨p0,x0,i0,r0,q0⟩ := hgG.at_ (j := i) (by rw [departD_len]; omega)
          rw [departD_at hi] at q0
          have r0' := r0 []
          rw [List.append_nil] at r0'
          have d1 : asNat (.int .i64 (i : Int)) = some i := asNat_n
          rcases hT with ⟨e5,rfl,rfl⟩ | ⟨e5,rfl,rfl⟩
          · simp only [go_sem,f1,f3,f4,f11,f12,f14,gG,bG,l2,y1,y2,d1,i0,r0,r0']
            refine rvC_use (rwithin_c (spansD (rowB (goodT c i))) x0 m q0 spansD_len).v ?_
            rw [within_dep hmb,e5]
            simp only [go_sem,f1,f3,f4,f11,f12,f14]
            refine rvC_use known_c.v ?_
            simp only [go_sem]
            exact tG
          · simp only [go_sem,f1,f3,f4,f11,f12,f14,gG,bG,l2,y1,y2,d1,i0,r0,r0']
            refine rvC_use (rwithin_c (spansD (rowB (goodT c i))) x0 m q0 spansD_len).v ?_
            rw [within_dep hmb,e5]
            simp only [go_sem,f1,f3,f4,f11,f12,f14,gG,bG,o1,o2]
            refine rvC_use (rmiss_c c v gv i m (hR.sub tG) hB hgG hi hmb).v ?_
            simp only [go_sem]
            refine rvC_use known_c.v ?_
            simp only [go_sem]
            exact tG
      · intro T tail
        refine rvC_use (rflown_c c v legs lv hR3 (Sl.sub hlv t3) hln).v ?_
        cases e4 : decide (legs.length = c.legs.length) && flownB c legs with
        | false =>
          rw [e4,if_neg (by simp)] at hyes
          obtain ⟨rfl,rfl⟩ := hyes
          simp only [go_sem]
          exact tail _ _ ⟨HSub.refl,rfl,rfl,rfl,rfl,rfl,rfl⟩
        | true =>
          rw [e4,if_pos rfl] at hyes
          obtain ⟨p0,x0,i0,r0,q0⟩ := hg.at_ (j := 0) (by rw [departD_len]; omega)
          rw [departD_at (by omega)] at q0
          have r0' := r0 []
          rw [List.append_nil] at r0'
          simp only [go_sem,i0,r0,r0']
          refine rvC_use (rwithin_c (spansD (rowB (goodT c 0))) x0 m q0 spansD_len).v ?_
          rw [within_dep hmb]
          cases e5 : goodT c 0 m.toNat with
          | false =>
            rw [if_neg (by simp [e5])] at hyes
            obtain ⟨rfl,rfl⟩ := hyes
            simp only [go_sem]
            exact tail _ _ ⟨HSub.refl,rfl,rfl,rfl,rfl,rfl,rfl⟩
          | true =>
            rw [if_pos e5] at hyes
            obtain ⟨rfl,hx⟩ := hyes
            simp only [Bool.and_eq_true,decide_eq_true_eq] at e4
            simp only [go_sem,g3,b3,o1,o2]
            refine rvC_post (ACall.vc (first := []) (args := [.agg (chainC v),gv,.int .i64 m,lv]) (rride_c c v gv m legs lv hR3 hB hg (Sl.sub hlv t3) e4.1 e4.2 hmb)) ?_
            rintro z H4 ⟨s4,hz⟩
            simp only [go_sem]
            have hrl : (rideD c m legs).length < 1000000 := by
              have key : ∀ (i : Nat) (m : Int) (l : List Int),(rideL c i m l).length ≤ 2 * l.length := fun i m l => by
                induction l generalizing i m with
                | nil => simp [rideL]
                | cons a l ih =>
                  simp only [rideL,List.length_cons]
                  split
                  · simp only [List.length_cons]; have := ih (i + 1) (fromD (goodT c (i + 1)) (m + a + (stopD c (i + 1)).turn)); omega
                  · have := ih (i + 1) (m + a); omega
              have := key 0 m legs
              simp only [rideD,List.length_cons]; omega
            refine rvC_use (same_c (rideD c m legs) (rideD c m legs) lx z (Sl.sub hx (s2.trans (s3.trans s4))) hz hrl).v ?_
            simp only [go_sem,decide_true]
            exact tail _ _ ⟨s4,rfl,rfl,rfl,rfl,rfl,rfl⟩
end Go.Proofs.Ab

/- The own layer under the proofs of this seat, part X: what calls of the program come to on an abstract heap. No condition. -/
import Derived.Test.YtammfjjepbekaaaW
import Derived.Test.YtammfjjepbekaaaG
set_option linter.unusedSimpArgs false
set_option linter.unusedVariables false
namespace Go.Proofs.Ab
open Go Go.Proofs
variable {w : World} {cs : List Value}

def kindRw : Rw := .int (.int (.int (.int (.int (.int (.int (.int .nil)))))))
def wearRw : Rw := .int (.int (.int (.int (.int (.int .nil)))))
def useRw : Rw := .int (.int (.int (.int (.int (.int (.bool .nil))))))
theorem kind_of (g : Gd w kindRw cs) : ∃ k : KindD, cs.map inj = k.c := by
  obtain ⟨a0, _, rfl, _, a1, _, rfl, _, a2, _, rfl, _, a3, _, rfl, _, a4, _, rfl, _, a5, _, rfl, _, a6, _, rfl, _, a7, _, rfl, _, rfl⟩ := g
  exact ⟨⟨a0, a1, a2, ⟨a3, a4⟩, ⟨a5, a6⟩, a7⟩, rfl⟩
theorem use_of (g : Gd w useRw cs) : ∃ k : UseD, cs.map inj = k.c := by
  obtain ⟨a0, _, rfl, _, a1, _, rfl, _, a2, _, rfl, _, a3, _, rfl, _, a4, _, rfl, _, a5, _, rfl, _, b, _, rfl, rfl⟩ := g
  exact ⟨⟨⟨a0, a1⟩, ⟨a2, a3⟩, ⟨a4, a5⟩, b⟩, rfl⟩
end Go.Proofs.Ab

namespace Go.Proofs.Ab
open Go Go.Proofs
variable {w0 : World} {h : Heap}
attribute [local irreducible] ACall ACallV AYield DCall DCallV rvC rdC lp rg dr ex un rv rd'

theorem kindOf_at {b : BayD} (hB : bayB b = true) {s : Nat} (hs : s < b.slots.length) : ∃ kn : Nat, b.slots[s].kind = kn ∧ ∃ hk : kn < b.kinds.length, kindOf b s = b.kinds[kn] := by
  have bs := bayB_spec hB
  have hsl := bs.2.2.2.2.2.2.2.2.2.2.2.1 b.slots[s] (List.getElem_mem hs)
  obtain ⟨kn, hkn⟩ : ∃ kn : Nat, b.slots[s].kind = kn := ⟨b.slots[s].kind.toNat, by omega⟩
  have hkn' : b.slots[s].kind.toNat = kn := by omega
  have hkl : kn < b.kinds.length := by omega
  exact ⟨kn, hkn, hkl, by simp [kindOf, hs, hkn', hkl]⟩
theorem kindOf_ok {b : BayD} (hB : bayB b = true) {s : Nat} (hs : s < b.slots.length) : kindB (kindOf b s) = true := by
  obtain ⟨kn, _, hk, e⟩ := kindOf_at hB hs
  rw [e]; exact (bayB_spec hB).2.2.2.2.2.2.2.2.2.2.1 _ (List.getElem_mem hk)
theorem beginW_ok {b : BayD} (hB : bayB b = true) {s : Nat} (hs : s < b.slots.length) (night : Int) : wornB (beginW b s night) = true := by
  unfold beginW
  split
  · rw [List.getElem?_eq_getElem hs]; exact ((bayB_spec hB).2.2.2.2.2.2.2.2.2.2.2.1 _ (List.getElem_mem hs)).2.2
  · rfl

theorem rkindOf_c (b : BayD) (v : BayV) (s : Nat) (hR : BayR w0 h b v) (hB : bayB b = true) (hs : s < b.slots.length) : DCall Try.prog w0 28 [.agg (bayC b v), .int .i64 s] h (.agg (kindOf b s).c) h := by
  refine DCall_quiet hmix mf28_ok mf28_b mf28_g (Nat.le_of_ble_eq_true rfl) (by simp [AV.bdd, AV.bdds]) fun hb ha => ex_in ?_
  have o1 := hR.kinds.one.1
  have o2 := hR.slots.one.1
  have o3 := hR.days.one.1
  have o4 := hR.nights.one.1
  have o5 := hR.defs.one.1
  obtain ⟨_, sp, s2, s3, s4⟩ := hR.slots.use
  obtain ⟨_, kp, k2, k3, k4⟩ := hR.kinds.use
  simp only [List.length_map] at s2 k2
  obtain ⟨kn, hkn, hkl, hkind⟩ := kindOf_at hB hs
  have a1 := s2 s hs
  have a2 : ∀ L, rd w0 (h ++ L) ((sp.add (s * 7)).add 0) = some (.int .i64 (kn : Int)) := fun L => rd_get (rdn_app (s3 s _ (by simp [hs]; rfl))) (by simp [PartD.c, hkn])
  have a3 := k2 kn hkl
  have a4 : ∀ L, rdn w0 (h ++ L) (kp.add (kn * 8)) 8 = some (kindOf b s).c := fun L => rdn_app (k3 kn _ (by rw [hkind]; simp [hkl]))
  simp only [go_sem, mf28, o1, o2, o3, o4, o5, a1, a2, a3, a4, ↓reduceIte, Nat.reduceEqDiff, Nat.reduceAdd, Nat.reduceSub, Nat.reduceMul, Nat.reduceLT, Nat.reduceLeDiff, Int.reduceLE, Int.reduceLT, Int.reduceAdd, Int.reduceSub, Int.reduceMul, Int.reduceEq, Int.reduceBEq, Int.reduceBNe, Int.reduceNeg, Int.reduceToNat, reduceCtorEq]

theorem rsure_c (k : KindD) (w : WearD) : DCall Try.prog w0 70 [.agg k.c, .agg w.c] h (.bool (withinB Span.high k w)) h := by
  refine DCall_quiet hmix mf70_ok mf70_b mf70_g (Nat.le_of_ble_eq_true rfl) (by simp [AV.bdd, AV.bdds]) fun hb ha => ex_in ?_
  simp only [go_sem, mf70, ↓reduceIte, Nat.reduceEqDiff, Nat.reduceAdd, Nat.reduceSub, Nat.reduceMul, Nat.reduceLT, Nat.reduceLeDiff, Int.reduceLE, Int.reduceLT, Int.reduceAdd, Int.reduceSub, Int.reduceMul, Int.reduceEq, Int.reduceBEq, Int.reduceBNe, Int.reduceNeg, Int.reduceToNat, reduceCtorEq]
  refine ⟨fun a => ⟨fun b => ?_, fun b => ?_⟩, fun a => ?_⟩
  · simp [withinB, a, b]
  · have : ¬ w.cycles.high ≤ k.cycles := by omega
    simp [withinB, this]
  · have : ¬ w.minutes.high ≤ k.minutes := by omega
    simp [withinB, this]
theorem rmay_c (k : KindD) (w : WearD) : DCall Try.prog w0 96 [.agg k.c, .agg w.c] h (.bool (withinB Span.low k w)) h := by
  refine DCall_quiet hmix mf96_ok mf96_b mf96_g (Nat.le_of_ble_eq_true rfl) (by simp [AV.bdd, AV.bdds]) fun hb ha => ex_in ?_
  simp only [go_sem, mf96, ↓reduceIte, Nat.reduceEqDiff, Nat.reduceAdd, Nat.reduceSub, Nat.reduceMul, Nat.reduceLT, Nat.reduceLeDiff, Int.reduceLE, Int.reduceLT, Int.reduceAdd, Int.reduceSub, Int.reduceMul, Int.reduceEq, Int.reduceBEq, Int.reduceBNe, Int.reduceNeg, Int.reduceToNat, reduceCtorEq]
  refine ⟨fun a => ⟨fun b => ?_, fun b => ?_⟩, fun a => ?_⟩
  · simp [withinB, a, b]
  · have : ¬ w.cycles.low ≤ k.cycles := by omega
    simp [withinB, this]
  · have : ¬ w.minutes.low ≤ k.minutes := by omega
    simp [withinB, this]

def aftL (k : KindD) (w : WearD) (us : List UseD) : WearD := us.foldl (growS k) w
theorem aftL_ok {k : KindD} (hk : kindB k = true) : ∀ {us : List UseD} {w : WearD}, wornB w = true → (∀ u ∈ us, dayB u = true) → wornB (aftL k w us) = true
  | [], _, hw, _ => hw
  | u :: us, w, hw, hu => aftL_ok (us := us) (w := growS k w u) hk (grow_worn hk hw (hu u List.mem_cons_self)) fun x hx => hu x (List.mem_cons_of_mem _ hx)
def afterD (b : BayD) (s : Nat) (night day : Int) : WearD := aftL (kindOf b s) (beginW b s night) ((b.days.drop (night + 1).toNat).take (day - night).toNat)

theorem rafter_c (b : BayD) (v : BayV) (s : Nat) (night day : Int) (hR : BayR w0 h b v) (hB : bayB b = true) (hs : s < b.slots.length) (hn : -1 ≤ night) (hd : night ≤ day) (hd2 : day < b.days.length) :
    DCall Try.prog w0 48 [.agg (bayC b v), .int .i64 s, .int .i64 night, .int .i64 day] h (.agg (afterD b s night day).c) h := by
  refine DCall_quiet hmix mf48_ok mf48_b mf48_g (Nat.le_of_ble_eq_true rfl) (by simp [AV.bdd, AV.bdds]) fun hb ha => ex_in ?_
  have bs := bayB_spec hB
  have o1 := hR.kinds.one.1
  have o2 := hR.slots.one.1
  have o3 := hR.days.one.1
  have o4 := hR.nights.one.1
  have o5 := hR.defs.one.1
  obtain ⟨_, sp, s2, s3, s4⟩ := hR.slots.use
  obtain ⟨_, dp, d2, d3, d4⟩ := hR.days.use
  simp only [List.length_map] at s2 d2
  have a1 := s2 s hs
  have a2 : ∀ L, rdn w0 (h ++ L) (sp.add (s * 7)) 7 = some b.slots[s].c := fun L => rdn_app (s3 s _ (by simp [hs]))
  have a3 : ∀ L, rdn w0 (h ++ L) ((sp.add (s * 7)).add 1) 6 = some (WearD.c b.slots[s].wear) := fun L => (rdn_get (a2 L)).2 1 6 (by omega)
  obtain ⟨us, eus⟩ : ∃ us, us = (b.days.drop (night + 1).toNat).take (day - night).toNat := ⟨_, rfl⟩
  have hul : us.length = (day - night).toNat := by rw [eus, List.length_take, List.length_drop]; omega
  have hua : ∀ (j : Nat) (hj : j < us.length), ∃ hj' : (night + 1).toNat + j < b.days.length, us[j] = b.days[(night + 1).toNat + j] := fun j hj => by
    have : (night + 1).toNat + j < b.days.length := by omega
    exact ⟨this, by simp [eus]⟩
  have huo : ∀ u ∈ us, dayB u = true := fun u hu => by
    rw [eus] at hu
    exact bs.2.2.2.2.2.2.2.2.2.2.2.2.1 _ (List.mem_of_mem_drop (List.mem_of_mem_take hu))
  have hk := kindOf_ok hB hs
  have hw := beginW_ok hB hs night
  have key : ∀ w : WearD, w = beginW b s night → lp Try.prog w0 none 37 h.length (quietK w0 [.c 8 (some 6)] h (.agg (afterD b s night day).c)) L48_0 [.inBlk 0, .code (.seq (.reg [.op (some 36) none (.load (.t 9) (some 6)), .op none none (.store (.t 8) (.t 36) 6)]) .ret)]
      [(1, .int .i64 s), (3, .int .i64 day), (4, .ptr (.own h.length 0)), (8, .ptr (.own (h.length + 1) 0)), (9, .ptr (.own (h.length + 2) 0)), (10, .int .i64 (night + 1))]
      (h ++ [some (.row (bayC b v)), some (.row [.int .i64 0, .int .i64 0, .int .i64 0, .int .i64 0, .int .i64 0, .int .i64 0]), some (.row w.c)]) := by
    intro w ew
    refine lp_for (S := Unit) (fun j _ => [(1, .int .i64 s), (3, .int .i64 day), (4, .ptr (.own h.length 0)), (8, .ptr (.own (h.length + 1) 0)), (9, .ptr (.own (h.length + 2) 0)), (10, .int .i64 (night + 1 + j))])
      (fun j _ => h ++ [some (.row (bayC b v)), some (.row [.int .i64 0, .int .i64 0, .int .i64 0, .int .i64 0, .int .i64 0, .int .i64 0]), some (.row (aftL (kindOf b s) w (us.take j)).c)]) (fun _ _ => True) us.length () trivial (by simp) (by simp [aftL]) (fun j _ hj _ ih => ?_) (fun _ _ => ?_)
    · refine lp_step hmix L48_0_g [1, 3, 4, 8, 9, 10] L48_0.eq_1 ?_
      have m1 : night + 1 + (j : Int) ≤ day := by omega
      obtain ⟨hj', e⟩ := hua j hj
      obtain ⟨q, hq⟩ : ∃ q : Nat, night + 1 + (j : Int) = q := ⟨(night + 1 + (j : Int)).toNat, by omega⟩
      have hq2 : q = (night + 1).toNat + j := by omega
      have i1 := d2 q (by omega)
      have i2 : ∀ L, rdn w0 (h ++ L) (dp.add (q * 7)) 7 = some us[j].c := fun L => rdn_app (d3 q _ (by simp only [hq2, List.getElem?_map, List.getElem?_eq_getElem hj', e]; rfl))
      have ho := aftL_ok (us := us.take j) hk (ew ▸ hw) fun u hu => huo u (List.mem_of_mem_take hu)
      have hu := huo us[j] (List.getElem_mem hj)
      have hst : growR (kindOf b s) (aftL (kindOf b s) w (us.take j)) us[j] = aftL (kindOf b s) w (us.take (j + 1)) := by
        rw [growR_eq _ _ _ hk ho hu, take_succ' hj, aftL, aftL, List.foldl_append]; rfl
      have ih := ih () trivial
      rw [← hst] at ih
      generalize aftL (kindOf b s) w (us.take j) = wj at ho ih ⊢
      have hq' : night + 1 + ((j + 1 : Nat) : Int) = (q : Int) + 1 := by omega
      rw [hq'] at ih
      rw [hq] at m1 ⊢
      simp only [go_sem, m1, i1, i2, ↓reduceIte, Nat.reduceEqDiff, Nat.reduceAdd, Nat.reduceSub, Nat.reduceMul, Nat.reduceLT, Nat.reduceLeDiff, Int.reduceLE, Int.reduceLT, Int.reduceAdd, Int.reduceSub, Int.reduceMul, Int.reduceEq, Int.reduceBEq, Int.reduceBNe, Int.reduceNeg, Int.reduceToNat, reduceCtorEq]
      refine rdC_q (rkindOf_c b v s hR.app hB hs).v ?_
      simp only [go_sem, i1, i2, ↓reduceIte, Nat.reduceEqDiff, Nat.reduceAdd, Nat.reduceSub, Nat.reduceMul, Nat.reduceLT, Nat.reduceLeDiff, Int.reduceLE, Int.reduceLT, Int.reduceAdd, Int.reduceSub, Int.reduceMul, Int.reduceEq, Int.reduceBEq, Int.reduceBNe, Int.reduceNeg, Int.reduceToNat, reduceCtorEq]
      refine rdC_q (rgrow_c (kindOf b s) wj us[j] hk ho hu).v ?_
      simp only [go_sem, ↓reduceIte, Nat.reduceEqDiff, Nat.reduceAdd, Nat.reduceSub, Nat.reduceMul, Nat.reduceLT, Nat.reduceLeDiff, Int.reduceLE, Int.reduceLT, Int.reduceAdd, Int.reduceSub, Int.reduceMul, Int.reduceEq, Int.reduceBEq, Int.reduceBNe, Int.reduceNeg, Int.reduceToNat, reduceCtorEq]
      exact ⟨(by unfold I64; omega), by simpa [WearD.c, bayC] using ih⟩
    · refine lp_step hmix L48_0_g [1, 3, 4, 8, 9, 10] L48_0.eq_1 ?_
      have m1 : ¬ night + 1 + (us.length : Int) ≤ day := by omega
      rw [List.take_of_length_le (Nat.le_refl _)]
      simp only [go_sem, m1, ↓reduceIte, Nat.reduceEqDiff, Nat.reduceAdd, Nat.reduceSub, Nat.reduceMul, Nat.reduceLT, Nat.reduceLeDiff, Int.reduceLE, Int.reduceLT, Int.reduceAdd, Int.reduceSub, Int.reduceMul, Int.reduceEq, Int.reduceBEq, Int.reduceBNe, Int.reduceNeg, Int.reduceToNat, reduceCtorEq]
      simp [afterD, ew, eus, WearD.c]
  simp only [go_sem, mf48, o1, o2, o3, o4, o5, ↓reduceIte, Nat.reduceEqDiff, Nat.reduceAdd, Nat.reduceSub, Nat.reduceMul, Nat.reduceLT, Nat.reduceLeDiff, Int.reduceLE, Int.reduceLT, Int.reduceAdd, Int.reduceSub, Int.reduceMul, Int.reduceEq, Int.reduceBEq, Int.reduceBNe, Int.reduceNeg, Int.reduceToNat, reduceCtorEq]
  refine ⟨fun e => ?_, fun e => ?_⟩
  · simp only [go_sem, a1, a3, ↓reduceIte, Nat.reduceEqDiff, Nat.reduceAdd, Nat.reduceSub, Nat.reduceMul, Nat.reduceLT, Nat.reduceLeDiff, Int.reduceLE, Int.reduceLT, Int.reduceAdd, Int.reduceSub, Int.reduceMul, Int.reduceEq, Int.reduceBEq, Int.reduceBNe, Int.reduceNeg, Int.reduceToNat, reduceCtorEq]
    exact ⟨(by unfold I64; omega), by simpa [WearD.c, bayC] using key b.slots[s].wear (by simp [beginW, e, hs])⟩
  · have : ¬ night < 0 := by omega
    exact ⟨(by unfold I64; omega), by simpa [WearD.c, bayC] using key ⟨⟨0, 0⟩, ⟨0, 0⟩, ⟨0, 0⟩⟩ (by simp [beginW, this])⟩
end Go.Proofs.Ab

namespace Go.Proofs.Ab
open Go Go.Proofs
variable {w0 : World} {h : Heap}
attribute [local irreducible] ACall ACallV AYield DCall DCallV rvC rdC lp rg dr ex un rv rd'

theorem rbay_c (b : BayD) (v : BayV) (hR : BayR w0 h b v) : DCall Try.prog w0 22 [.agg (bayC b v)] h (.bool (bayB b)) h := by
  refine DCall_quiet hmix mf22_ok mf22_b mf22_g (Nat.le_of_ble_eq_true rfl) (by simp [AV.bdd, AV.bdds]) fun hb ha => ex_in ?_
  have l0 := hR.len
  obtain ⟨k1, kp, k2, k3, k4⟩ := hR.kinds.use
  obtain ⟨s1, sp, s2, s3, s4⟩ := hR.slots.use
  obtain ⟨d1, dp, d2, d3, d4⟩ := hR.days.use
  have n1 := hR.nights.use.1
  obtain ⟨f1, fp, f2, f3, f4⟩ := hR.defs.use
  simp only [List.length_map] at k1 s1 d1 n1 f1 k2 s2 d2 f2
  have o1 := hR.kinds.one.1
  have o2 := hR.slots.one.1
  have o3 := hR.days.one.1
  have o4 := hR.nights.one.1
  have o5 := hR.defs.one.1
  simp only [go_sem, mf22, o1, o2, o3, o4, o5, k1, s1, d1, n1, f1, ↓reduceIte, Nat.reduceEqDiff, Nat.reduceAdd, Nat.reduceSub, Nat.reduceMul, Nat.reduceLT, Nat.reduceLeDiff, Int.reduceLE, Int.reduceLT, Int.reduceAdd, Int.reduceSub, Int.reduceMul, Int.reduceEq, Int.reduceBEq, Int.reduceBNe, Int.reduceNeg, Int.reduceToNat, reduceCtorEq]
  refine rvC_use (rin_c _ _ _).v ?_
  simp only [go_sem, k1, s1, d1, n1, f1, ↓reduceIte, Nat.reduceEqDiff, Nat.reduceAdd, Nat.reduceSub, Nat.reduceMul, Nat.reduceLT, Nat.reduceLeDiff, Int.reduceLE, Int.reduceLT, Int.reduceAdd, Int.reduceSub, Int.reduceMul, Int.reduceEq, Int.reduceBEq, Int.reduceBNe, Int.reduceNeg, Int.reduceToNat, reduceCtorEq]
  refine ⟨fun e1 => ?_, fun e => by simp [bayB, e]⟩
  refine rvC_use (rin_c _ _ _).v ?_
  simp only [go_sem, k1, s1, d1, n1, f1, ↓reduceIte, Nat.reduceEqDiff, Nat.reduceAdd, Nat.reduceSub, Nat.reduceMul, Nat.reduceLT, Nat.reduceLeDiff, Int.reduceLE, Int.reduceLT, Int.reduceAdd, Int.reduceSub, Int.reduceMul, Int.reduceEq, Int.reduceBEq, Int.reduceBNe, Int.reduceNeg, Int.reduceToNat, reduceCtorEq]
  refine ⟨fun e2 => ?_, fun e => by simp [bayB, e]⟩
  refine rvC_use (rin_c _ _ _).v ?_
  simp only [go_sem, k1, s1, d1, n1, f1, ↓reduceIte, Nat.reduceEqDiff, Nat.reduceAdd, Nat.reduceSub, Nat.reduceMul, Nat.reduceLT, Nat.reduceLeDiff, Int.reduceLE, Int.reduceLT, Int.reduceAdd, Int.reduceSub, Int.reduceMul, Int.reduceEq, Int.reduceBEq, Int.reduceBNe, Int.reduceNeg, Int.reduceToNat, reduceCtorEq]
  refine ⟨fun e3 => ?_, fun e => by simp [bayB, e]⟩
  refine ⟨fun e4 => ?_, fun e => ?_⟩
  · refine rvC_use (rin_c _ _ _).v ?_
    simp only [go_sem, k1, s1, d1, n1, f1, ↓reduceIte, Nat.reduceEqDiff, Nat.reduceAdd, Nat.reduceSub, Nat.reduceMul, Nat.reduceLT, Nat.reduceLeDiff, Int.reduceLE, Int.reduceLT, Int.reduceAdd, Int.reduceSub, Int.reduceMul, Int.reduceEq, Int.reduceBEq, Int.reduceBNe, Int.reduceNeg, Int.reduceToNat, reduceCtorEq]
    refine ⟨fun e5 => ⟨fun e6 => ?_, fun e6 => ?_⟩, fun e => by simp [bayB, e]⟩
    · have : ¬ b.defs.length ≤ 8 := by omega
      simp [bayB, this]
    refine lp_all (fun j => [(1, .ptr (.own h.length 0)), (3, .int .i64 j)]) (fun j => ∀ hj : j < b.kinds.length, kindB b.kinds[j] = true) b.kinds.length rfl (fun j hj hi ih => ?_) (fun ek => ?_)
    · refine lp_step hmix L22_0_g [1, 3] L22_0.eq_1 ?_
      have i1 := k2 j hj
      have i2 : ∀ L, rdn w0 (h ++ L) (kp.add (j * 8)) 8 = some b.kinds[j].c := fun L => rdn_app (k3 j _ (by simp [hj]))
      have i3 : (j : Int) < b.kinds.length := by omega
      simp only [go_sem, i1, i2, i3, k1, ↓reduceIte, Nat.reduceEqDiff, Nat.reduceAdd, Nat.reduceSub, Nat.reduceMul, Nat.reduceLT, Nat.reduceLeDiff, Int.reduceLE, Int.reduceLT, Int.reduceAdd, Int.reduceSub, Int.reduceMul, Int.reduceEq, Int.reduceBEq, Int.reduceBNe, Int.reduceNeg, Int.reduceToNat, reduceCtorEq]
      refine rvC_use (rkind_c b.kinds[j]).v ?_
      simp only [go_sem, ↓reduceIte, Nat.reduceEqDiff, Nat.reduceAdd, Nat.reduceSub, Nat.reduceMul, Nat.reduceLT, Nat.reduceLeDiff, Int.reduceLE, Int.reduceLT, Int.reduceAdd, Int.reduceSub, Int.reduceMul, Int.reduceEq, Int.reduceBEq, Int.reduceBNe, Int.reduceNeg, Int.reduceToNat, reduceCtorEq]
      refine ⟨fun e => ?_, fun e => ⟨(by unfold I64; omega), ih fun _ => e⟩⟩
      have : b.kinds.all kindB = false := List.all_eq_false.2 ⟨_, List.getElem_mem hj, by simp [e]⟩
      simp [bayB, this]
    refine lp_step hmix L22_0_g [1, 3] L22_0.eq_1 ?_
    have x1 : ¬ (b.kinds.length : Int) < b.kinds.length := by omega
    simp only [go_sem, x1, s1, k1, ↓reduceIte, Nat.reduceEqDiff, Nat.reduceAdd, Nat.reduceSub, Nat.reduceMul, Nat.reduceLT, Nat.reduceLeDiff, Int.reduceLE, Int.reduceLT, Int.reduceAdd, Int.reduceSub, Int.reduceMul, Int.reduceEq, Int.reduceBEq, Int.reduceBNe, Int.reduceNeg, Int.reduceToNat, reduceCtorEq]
    have ek : b.kinds.all kindB = true := List.all_eq_true.2 fun x hx => by
      obtain ⟨i, hi, rfl⟩ := List.getElem_of_mem hx
      exact ek i hi hi
    refine lp_all (fun j => [(1, .ptr (.own h.length 0)), (4, .int .i64 j)]) (fun j => ∀ hj : j < b.slots.length, partB b b.slots[j] = true) b.slots.length rfl (fun j hj hi ih => ?_) (fun es => ?_)
    · refine lp_step hmix L22_1_g [1, 4] L22_1.eq_1 ?_
      have i1 := s2 j hj
      have i2 : ∀ L, rdn w0 (h ++ L) (sp.add (j * 7)) 7 = some b.slots[j].c := fun L => rdn_app (s3 j _ (by simp [hj]))
      have i4 : ∀ L, rd w0 (h ++ L) ((sp.add (j * 7)).add 0) = some (.int .i64 b.slots[j].kind) := fun L => rd_get (i2 L) rfl
      have i5 : ∀ L, rdn w0 (h ++ L) ((sp.add (j * 7)).add 1) 6 = some (WearD.c b.slots[j].wear) := fun L => (rdn_get (i2 L)).2 1 6 (by omega)
      have i3 : (j : Int) < b.slots.length := by omega
      simp only [go_sem, i1, i4, i5, i3, k1, s1, ↓reduceIte, Nat.reduceEqDiff, Nat.reduceAdd, Nat.reduceSub, Nat.reduceMul, Nat.reduceLT, Nat.reduceLeDiff, Int.reduceLE, Int.reduceLT, Int.reduceAdd, Int.reduceSub, Int.reduceMul, Int.reduceEq, Int.reduceBEq, Int.reduceBNe, Int.reduceNeg, Int.reduceToNat, reduceCtorEq]
      refine ⟨(by unfold I64; omega), ?_⟩
      refine rdC_q (rin_c _ _ _).v ?_
      simp only [go_sem, i1, i4, i5, s1, ↓reduceIte, Nat.reduceEqDiff, Nat.reduceAdd, Nat.reduceSub, Nat.reduceMul, Nat.reduceLT, Nat.reduceLeDiff, Int.reduceLE, Int.reduceLT, Int.reduceAdd, Int.reduceSub, Int.reduceMul, Int.reduceEq, Int.reduceBEq, Int.reduceBNe, Int.reduceNeg, Int.reduceToNat, reduceCtorEq]
      have no : partB b b.slots[j] = false → bayB b = false := fun e => by
        have : b.slots.all (partB b) = false := List.all_eq_false.2 ⟨_, List.getElem_mem hj, by simp [e]⟩
        simp [bayB, this]
      refine ⟨fun e => ?_, fun e => by rw [no (by simp [partB, e])]⟩
      refine rdC_q (rworn_c b.slots[j].wear).v ?_
      simp only [go_sem, ↓reduceIte, Nat.reduceEqDiff, Nat.reduceAdd, Nat.reduceSub, Nat.reduceMul, Nat.reduceLT, Nat.reduceLeDiff, Int.reduceLE, Int.reduceLT, Int.reduceAdd, Int.reduceSub, Int.reduceMul, Int.reduceEq, Int.reduceBEq, Int.reduceBNe, Int.reduceNeg, Int.reduceToNat, reduceCtorEq]
      refine ⟨fun e' => by rw [no (by simp [partB, e'])], fun e' => ⟨(by unfold I64; omega), ih fun _ => by simp [partB, e, e']⟩⟩
    refine lp_step hmix L22_1_g [1, 4] L22_1.eq_1 ?_
    have x2 : ¬ (b.slots.length : Int) < b.slots.length := by omega
    simp only [go_sem, x2, d1, s1, ↓reduceIte, Nat.reduceEqDiff, Nat.reduceAdd, Nat.reduceSub, Nat.reduceMul, Nat.reduceLT, Nat.reduceLeDiff, Int.reduceLE, Int.reduceLT, Int.reduceAdd, Int.reduceSub, Int.reduceMul, Int.reduceEq, Int.reduceBEq, Int.reduceBNe, Int.reduceNeg, Int.reduceToNat, reduceCtorEq]
    have es : b.slots.all (partB b) = true := List.all_eq_true.2 fun x hx => by
      obtain ⟨i, hi, rfl⟩ := List.getElem_of_mem hx
      exact es i hi hi
    refine lp_all (fun j => [(1, .ptr (.own h.length 0)), (5, .int .i64 j)]) (fun j => ∀ hj : j < b.days.length, dayB b.days[j] = true) b.days.length rfl (fun j hj hi ih => ?_) (fun ed => ?_)
    · refine lp_step hmix L22_2_g [1, 5] L22_2.eq_1 ?_
      have i1 := d2 j hj
      have i2 : ∀ L, rdn w0 (h ++ L) (dp.add (j * 7)) 7 = some b.days[j].c := fun L => rdn_app (d3 j _ (by simp [hj]))
      have i3 : (j : Int) < b.days.length := by omega
      simp only [go_sem, i1, i2, i3, d1, ↓reduceIte, Nat.reduceEqDiff, Nat.reduceAdd, Nat.reduceSub, Nat.reduceMul, Nat.reduceLT, Nat.reduceLeDiff, Int.reduceLE, Int.reduceLT, Int.reduceAdd, Int.reduceSub, Int.reduceMul, Int.reduceEq, Int.reduceBEq, Int.reduceBNe, Int.reduceNeg, Int.reduceToNat, reduceCtorEq]
      refine rvC_use (rday_c b.days[j]).v ?_
      simp only [go_sem, ↓reduceIte, Nat.reduceEqDiff, Nat.reduceAdd, Nat.reduceSub, Nat.reduceMul, Nat.reduceLT, Nat.reduceLeDiff, Int.reduceLE, Int.reduceLT, Int.reduceAdd, Int.reduceSub, Int.reduceMul, Int.reduceEq, Int.reduceBEq, Int.reduceBNe, Int.reduceNeg, Int.reduceToNat, reduceCtorEq]
      refine ⟨fun e => ?_, fun e => ⟨(by unfold I64; omega), ih fun _ => e⟩⟩
      have : b.days.all dayB = false := List.all_eq_false.2 ⟨_, List.getElem_mem hj, by simp [e]⟩
      simp [bayB, this]
    refine lp_step hmix L22_2_g [1, 5] L22_2.eq_1 ?_
    have x3 : ¬ (b.days.length : Int) < b.days.length := by omega
    simp only [go_sem, x3, d1, f1, ↓reduceIte, Nat.reduceEqDiff, Nat.reduceAdd, Nat.reduceSub, Nat.reduceMul, Nat.reduceLT, Nat.reduceLeDiff, Int.reduceLE, Int.reduceLT, Int.reduceAdd, Int.reduceSub, Int.reduceMul, Int.reduceEq, Int.reduceBEq, Int.reduceBNe, Int.reduceNeg, Int.reduceToNat, reduceCtorEq]
    have ed : b.days.all dayB = true := List.all_eq_true.2 fun x hx => by
      obtain ⟨i, hi, rfl⟩ := List.getElem_of_mem hx
      exact ed i hi hi
    refine lp_all (fun j => [(1, .ptr (.own h.length 0)), (6, .int .i64 j)]) (fun j => ∀ hj : j < b.defs.length, defB b b.defs[j] = true) b.defs.length rfl (fun j hj hi ih => ?_) (fun ef => ?_)
    · refine lp_step hmix L22_3_g [1, 6] L22_3.eq_1 ?_
      have i1 := f2 j hj
      have i2 : ∀ L, rdn w0 (h ++ L) (fp.add (j * 3)) 3 = some b.defs[j].c := fun L => rdn_app (f3 j _ (by simp [hj]))
      have i4 : ∀ L, rd w0 (h ++ L) ((fp.add (j * 3)).add 0) = some (.int .i64 b.defs[j].slot) := fun L => rd_get (i2 L) rfl
      have i5 : ∀ L, rdn w0 (h ++ L) ((fp.add (j * 3)).add 1) 2 = some (Span.c b.defs[j].nights) := fun L => (rdn_get (i2 L)).2 1 2 (by omega)
      have i3 : (j : Int) < b.defs.length := by omega
      simp only [go_sem, i1, i4, i5, i3, d1, s1, f1, ↓reduceIte, Nat.reduceEqDiff, Nat.reduceAdd, Nat.reduceSub, Nat.reduceMul, Nat.reduceLT, Nat.reduceLeDiff, Int.reduceLE, Int.reduceLT, Int.reduceAdd, Int.reduceSub, Int.reduceMul, Int.reduceEq, Int.reduceBEq, Int.reduceBNe, Int.reduceNeg, Int.reduceToNat, reduceCtorEq]
      refine ⟨(by unfold I64; omega), ?_⟩
      refine rdC_q (rin_c _ _ _).v ?_
      simp only [go_sem, i1, i4, i5, s1, d1, ↓reduceIte, Nat.reduceEqDiff, Nat.reduceAdd, Nat.reduceSub, Nat.reduceMul, Nat.reduceLT, Nat.reduceLeDiff, Int.reduceLE, Int.reduceLT, Int.reduceAdd, Int.reduceSub, Int.reduceMul, Int.reduceEq, Int.reduceBEq, Int.reduceBNe, Int.reduceNeg, Int.reduceToNat, reduceCtorEq]
      have no : defB b b.defs[j] = false → bayB b = false := fun e => by
        have : b.defs.all (defB b) = false := List.all_eq_false.2 ⟨_, List.getElem_mem hj, by simp [e]⟩
        simp [bayB, this]
      refine ⟨fun e => ⟨(by unfold I64; omega), ?_⟩, fun e => by rw [no (by simp [defB, e])]⟩
      refine rdC_q (rspan_c b.defs[j].nights _).v ?_
      simp only [go_sem, ↓reduceIte, Nat.reduceEqDiff, Nat.reduceAdd, Nat.reduceSub, Nat.reduceMul, Nat.reduceLT, Nat.reduceLeDiff, Int.reduceLE, Int.reduceLT, Int.reduceAdd, Int.reduceSub, Int.reduceMul, Int.reduceEq, Int.reduceBEq, Int.reduceBNe, Int.reduceNeg, Int.reduceToNat, reduceCtorEq]
      refine ⟨fun e' => by rw [no (by simp [defB, e'])], fun e' => ⟨(by unfold I64; omega), ih fun _ => by simp [defB, e, e']⟩⟩
    refine lp_step hmix L22_3_g [1, 6] L22_3.eq_1 ?_
    have x4 : ¬ (b.defs.length : Int) < b.defs.length := by omega
    simp only [go_sem, x4, f1, ↓reduceIte, Nat.reduceEqDiff, Nat.reduceAdd, Nat.reduceSub, Nat.reduceMul, Nat.reduceLT, Nat.reduceLeDiff, Int.reduceLE, Int.reduceLT, Int.reduceAdd, Int.reduceSub, Int.reduceMul, Int.reduceEq, Int.reduceBEq, Int.reduceBNe, Int.reduceNeg, Int.reduceToNat, reduceCtorEq]
    have ef : b.defs.all (defB b) = true := List.all_eq_true.2 fun x hx => by
      obtain ⟨i, hi, rfl⟩ := List.getElem_of_mem hx
      exact ef i hi hi
    have e6' : b.defs.length ≤ 8 := by omega
    have e4' : (b.nights.length == b.days.length) = true := by simp; omega
    simp [bayB, e1, e2, e3, e4', e5, e6', ek, es, ed, ef]
  · have : (b.nights.length == b.days.length) = false := by simp; omega
    simp [bayB, this]
end Go.Proofs.Ab

namespace Go.Proofs.Ab
open Go Go.Proofs
variable {w0 : World} {h : Heap}
attribute [local irreducible] ACall ACallV AYield DCall DCallV rvC rdC lp rg dr ex un rv rd'

structure BayS (w0 : World) (h : Heap) (b : BayD) (v : BayV) : Prop where
  kinds : Sl w0 h 8 v.kv (b.kinds.map KindD.c)
  slots : Sl w0 h 7 v.sv (b.slots.map PartD.c)
  days : Sl w0 h 7 v.dv (b.days.map UseD.c)
  nights : Sl w0 h 1 v.nv (b.nights.map fun x => [.bool x])
  defs : Sl w0 h 3 v.fv (b.defs.map DefD.c)
def shortB (b : BayD) : Bool := decide (b.kinds.length ≤ 12) && (decide (b.slots.length ≤ 8) && (decide (b.days.length ≤ 40) && (decide (b.nights.length ≤ 40) && decide (b.defs.length ≤ 12))))
theorem BayS.R {b : BayD} {v : BayV} (s : BayS w0 h b v) (hb : shortB b = true) : BayR w0 h b v := by
  simp only [shortB, Bool.and_eq_true, decide_eq_true_eq] at hb
  exact ⟨s.kinds, s.slots, s.days, s.nights, s.defs, by omega, by omega, by omega, by omega, by omega⟩
theorem BayS.app {b : BayD} {v : BayV} {L : Heap} (s : BayS w0 h b v) : BayS w0 (h ++ L) b v := ⟨s.kinds.app, s.slots.app, s.days.app, s.nights.app, s.defs.app⟩

theorem short_c (b : BayD) (v : BayV) (hR : BayS w0 h b v) : DCall Try.prog w0 19 [.agg (bayC b v)] h (.bool (shortB b)) h := by
  refine DCall_quiet hmix mf19_ok mf19_b mf19_g (Nat.le_of_ble_eq_true rfl) (by simp [AV.bdd, AV.bdds]) fun hb ha => ex_in ?_
  have k1 := hR.kinds.use.1
  have s1 := hR.slots.use.1
  have d1 := hR.days.use.1
  have n1 := hR.nights.use.1
  have f1 := hR.defs.use.1
  simp only [List.length_map] at k1 s1 d1 n1 f1
  have o1 := hR.kinds.one.1
  have o2 := hR.slots.one.1
  have o3 := hR.days.one.1
  have o4 := hR.nights.one.1
  have o5 := hR.defs.one.1
  simp only [go_sem, mf19, o1, o2, o3, o4, o5, k1, s1, d1, n1, f1, ↓reduceIte, Nat.reduceEqDiff, Nat.reduceAdd, Nat.reduceSub, Nat.reduceMul, Nat.reduceLT, Nat.reduceLeDiff, Int.reduceLE, Int.reduceLT, Int.reduceAdd, Int.reduceSub, Int.reduceMul, Int.reduceEq, Int.reduceBEq, Int.reduceBNe, Int.reduceNeg, Int.reduceToNat, reduceCtorEq]
  refine ⟨fun a1 => ⟨fun a2 => ⟨fun a3 => ⟨fun a4 => ?_, fun a4 => ?_⟩, fun a3 => ?_⟩, fun a2 => ?_⟩, fun a1 => ?_⟩
  · have h1 : b.kinds.length ≤ 12 := by omega
    have h2 : b.slots.length ≤ 8 := by omega
    have h3 : b.days.length ≤ 40 := by omega
    have h4 : b.nights.length ≤ 40 := by omega
    have h5 : ((b.defs.length : Int) ≤ 12) = (b.defs.length ≤ 12) := by simp only [eq_iff_iff]; omega
    simp [shortB, h1, h2, h3, h4, h5]
  all_goals simp [shortB]; omega

def smallB (b : BayD) (s d : Int) : Bool := shortB b && (!(bayB b) || (decide ((b.slots.length : Int) ≤ s) && decide ((b.days.length : Int) ≤ d)))
theorem small_c (b : BayD) (v : BayV) (s d : Int) (hR : BayS w0 h b v) : DCall Try.prog w0 31 [.agg (bayC b v), .int .i64 s, .int .i64 d] h (.bool (smallB b s d)) h := by
  refine DCall_quiet hmix mf31_ok mf31_b mf31_g (Nat.le_of_ble_eq_true rfl) (by simp [AV.bdd, AV.bdds]) fun hb ha => ex_in ?_
  have s1 := hR.slots.use.1
  have d1 := hR.days.use.1
  simp only [List.length_map] at s1 d1
  have o1 := hR.kinds.one.1
  have o2 := hR.slots.one.1
  have o3 := hR.days.one.1
  have o4 := hR.nights.one.1
  have o5 := hR.defs.one.1
  simp only [go_sem, mf31, o1, o2, o3, o4, o5, ↓reduceIte, Nat.reduceEqDiff, Nat.reduceAdd, Nat.reduceSub, Nat.reduceMul, Nat.reduceLT, Nat.reduceLeDiff, Int.reduceLE, Int.reduceLT, Int.reduceAdd, Int.reduceSub, Int.reduceMul, Int.reduceEq, Int.reduceBEq, Int.reduceBNe, Int.reduceNeg, Int.reduceToNat, reduceCtorEq]
  refine rvC_use (short_c b v hR.app).v ?_
  simp only [go_sem, ↓reduceIte, Nat.reduceEqDiff, Nat.reduceAdd, Nat.reduceSub, Nat.reduceMul, Nat.reduceLT, Nat.reduceLeDiff, Int.reduceLE, Int.reduceLT, Int.reduceAdd, Int.reduceSub, Int.reduceMul, Int.reduceEq, Int.reduceBEq, Int.reduceBNe, Int.reduceNeg, Int.reduceToNat, reduceCtorEq]
  refine ⟨fun e1 => ?_, fun e1 => by simp [smallB, e1]⟩
  refine rvC_use (rbay_c b v (hR.R e1).app).v ?_
  simp only [go_sem, s1, d1, ↓reduceIte, Nat.reduceEqDiff, Nat.reduceAdd, Nat.reduceSub, Nat.reduceMul, Nat.reduceLT, Nat.reduceLeDiff, Int.reduceLE, Int.reduceLT, Int.reduceAdd, Int.reduceSub, Int.reduceMul, Int.reduceEq, Int.reduceBEq, Int.reduceBNe, Int.reduceNeg, Int.reduceToNat, reduceCtorEq]
  refine ⟨fun e2 => ⟨fun e3 => ?_, fun e3 => ?_⟩, fun e2 => by simp [smallB, e1, e2]⟩
  · simp [smallB, e1, e2, e3]
  · have : ¬ (b.slots.length : Int) ≤ s := by omega
    simp [smallB, e1, e2, this]

end Go.Proofs.Ab

namespace Go.Proofs.Ab
open Go Go.Proofs
variable {w0 : World} {h : Heap}
attribute [local irreducible] ACall ACallV AYield DCall DCallV rvC rdC lp rg dr ex un rv rd'

end Go.Proofs.Ab

namespace Go.Proofs.Ab
open Go

def leW (w x : WearD) : Prop := w.minutes.low ≤ x.minutes.low ∧ w.minutes.high ≤ x.minutes.high ∧ w.cycles.low ≤ x.cycles.low ∧ w.cycles.high ≤ x.cycles.high ∧ w.rust.low ≤ x.rust.low ∧ w.rust.high ≤ x.rust.high
theorem leW.trans {a b c : WearD} (h : leW a b) (g : leW b c) : leW a c := by simp only [leW] at *; omega
theorem lookM_bit {n : Nat} : ∀ {c m : List Nat} {s : Nat} (i : Nat), s < m.length → ((lookM n m c).getD s 0).testBit i = ((m.getD s 0).testBit i || (decide (i = n) && c.any fun y => y == s))
  | [], m, s, i, _ => by simp [lookM]
  | x :: c, m, s, i, hs => by
    have ih := lookM_bit (n := n) (c := c) (m := orBit m x n) (s := s) i (by rw [orBit_len]; exact hs)
    simp only [lookM, List.foldl_cons] at ih ⊢
    rw [ih]
    have ho : ((orBit m x n).getD s 0).testBit i = ((m.getD s 0).testBit i || (decide (i = n) && (x == s))) := by
      simp only [orBit, List.getD_eq_getElem?_getD]
      by_cases e : x = s
      · subst e
        rw [List.getElem?_set_self hs]
        simp only [Option.getD_some, Nat.testBit_or, Nat.testBit_two_pow, beq_self_eq_true, Bool.and_true]
        congr 1
        by_cases e2 : i = n <;> simp [e2]
        exact fun x => e2 x.symm
      · rw [List.getElem?_set_ne e]
        simp [e]
    rw [ho, List.any_cons, Bool.or_assoc]
    congr 1
    cases decide (i = n) <;> simp

def BitsI (t : List (List Int)) (n : Nat) (m : List Nat) : Prop := m.length = 5 ∧ ∀ (s i : Nat), s < 5 → (m.getD s 0).testBit i = (decide (i < n) && ((t.getD i []).any fun y => y == (s : Int)))
theorem any_nat {l : List Int} (hl : ∀ x ∈ l, 0 ≤ x) (s : Nat) : (l.map Int.toNat).any (fun y => y == s) = l.any fun y => y == (s : Int) := by
  induction l with
  | nil => rfl
  | cons x l ih =>
    have h0 := hl x List.mem_cons_self
    simp only [List.map_cons, List.any_cons, ih fun y hy => hl y (List.mem_cons_of_mem _ hy)]
    congr 1
    by_cases e : x = (s : Int)
    · simp [e]
    · have : ¬ x.toNat = s := by omega
      rw [beq_eq_false_iff_ne.2 this, beq_eq_false_iff_ne.2 e]
theorem BitsI.look {t : List (List Int)} {n : Nat} {m : List Nat} (B : BitsI t n m) (hl : ∀ x ∈ t.getD n [], 0 ≤ x) : BitsI t (n + 1) (lookM n m ((t.getD n []).map Int.toNat)) := by
  refine ⟨by rw [lookM_len]; exact B.1, fun s i hs => ?_⟩
  rw [lookM_bit i (by rw [B.1]; exact hs), B.2 s i hs, any_nat hl]
  by_cases e : i = n
  · subst e; simp
  · by_cases e2 : i < n
    · have : i < n + 1 := by omega
      simp [e, e2, this]
    · have : ¬ i < n + 1 := by omega
      simp [e, e2, this]
theorem putD_take {n : Nat} : ∀ {c : List Nat} {p : List Int} {N : Nat}, (putD n p c).take N = putD n (p.take N) c
  | [], _, _ => rfl
  | x :: c, p, N => by
    have := putD_take (n := n) (c := c) (p := p.set x n) (N := N)
    simp only [putD, List.foldl_cons] at this ⊢
    rw [this, List.take_set]
end Go.Proofs.Ab

namespace Go.Proofs.Ab
open Go Go.Proofs
variable {w : World} {h : Heap} {cs : List Value}

def partRw : Rw := .int wearRw
def defRw : Rw := .int (.int (.int .nil))
def bayRw : Rw := .sl kindRw (.sl partRw (.sl useRw (.sl (.bool .nil) (.int (.sl defRw .nil)))))
theorem part_of (g : Gd w partRw cs) : ∃ k : PartD, cs.map inj = k.c := by
  obtain ⟨k, _, rfl, _, a0, _, rfl, _, a1, _, rfl, _, a2, _, rfl, _, a3, _, rfl, _, a4, _, rfl, _, a5, _, rfl, _, rfl⟩ := g
  exact ⟨⟨k, ⟨⟨a0, a1⟩, ⟨a2, a3⟩, ⟨a4, a5⟩⟩⟩, rfl⟩
theorem def_of (g : Gd w defRw cs) : ∃ k : DefD, cs.map inj = k.c := by
  obtain ⟨a0, _, rfl, _, a1, _, rfl, _, a2, _, rfl, _, rfl⟩ := g
  exact ⟨⟨a0, ⟨a1, a2⟩⟩, rfl⟩
theorem bay_of (g : Gd w bayRw cs) : ∃ (b : BayD) (v : BayV), cs.map inj = bayC b v ∧ BayS w h b v := by
  obtain ⟨v0, _, rfl, g0, v1, _, rfl, g1, v2, _, rfl, g2, v3, _, rfl, g3, m, _, rfl, _, v4, _, rfl, g4, rfl⟩ := g
  obtain ⟨l0, s0, _⟩ := slice_of (h := h) KindD.c rfl g0 fun _ g => kind_of g
  obtain ⟨l1, s1, _⟩ := slice_of (h := h) PartD.c rfl g1 fun _ g => part_of g
  obtain ⟨l2, s2, _⟩ := slice_of (h := h) UseD.c rfl g2 fun _ g => use_of g
  obtain ⟨l3, s3, _⟩ := slice_of (h := h) (fun x => [AV.bool x]) rfl g3 fun _ g => by
    obtain ⟨b, _, rfl, rfl⟩ := g
    exact ⟨b, rfl⟩
  obtain ⟨l4, s4, _⟩ := slice_of (h := h) DefD.c rfl g4 fun _ g => def_of g
  exact ⟨⟨l0, l1, l2, l3, m, l4⟩, ⟨inj v0, inj v1, inj v2, inj v3, inj v4⟩, rfl, s0, s1, s2, s3, s4⟩

end Go.Proofs.Ab

namespace Go.Proofs.Ab
open Go Go.Proofs
variable {w0 : World} {h : Heap}
attribute [local irreducible] ACall ACallV AYield DCall DCallV rvC rdC lp rg dr ex un rv rd'

def lastR (en : Span → Int) (b : BayD) (s : Nat) (night : Int) : Nat → Int
  | 0 => night
  | j + 1 => if decide (lastR en b s night j = night + j) && withinB en (kindOf b s) (afterD b s night (night + 1 + j)) then night + 1 + j else lastR en b s night j

theorem daysL_snoc {k : KindD} {u : UseD} : ∀ {us : List UseD} {t : Nat} {w : WearD}, daysL k (us ++ [u]) t w = daysL k us t w ++ [(t + us.length, growS k (aftL k w us) u)]
  | [], t, w => rfl
  | x :: us, t, w => by
    have := daysL_snoc (k := k) (u := u) (us := us) (t := t + 1) (w := growS k w x)
    simp only [List.cons_append, daysL, this, List.length_cons, aftL, List.foldl_cons, show t + 1 + us.length = t + (us.length + 1) by omega]
theorem lastL_snoc {en : Span → Int} {k : KindD} {x : Nat × WearD} : ∀ {l : List (Nat × WearD)} {last : Int}, lastL en k (l ++ [x]) last = if (l.all fun y => withinB en k y.2) && withinB en k x.2 then (x.1 : Int) else lastL en k l last
  | [], last => by simp [lastL]
  | y :: l, last => by
    have := lastL_snoc (en := en) (k := k) (x := x) (l := l) (last := y.1)
    simp only [List.cons_append, lastL, List.all_cons]
    by_cases e : withinB en k y.2 = true
    · simp only [e, if_true, this, Bool.true_and]
    · simp [e]
theorem lastR_eq {en : Span → Int} {b : BayD} {s : Nat} {night : Int} (hn : -1 ≤ night) (us : List UseD) (eus : us = b.days.drop (night + 1).toNat) (j : Nat) (hj : j ≤ us.length) :
    lastR en b s night j = lastL en (kindOf b s) (daysL (kindOf b s) (us.take j) (night + 1).toNat (beginW b s night)) night ∧
    (lastR en b s night j = night + j ↔ ((daysL (kindOf b s) (us.take j) (night + 1).toNat (beginW b s night)).all fun y => withinB en (kindOf b s) y.2) = true) := by
  induction j with
  | zero => simp [lastR, daysL, lastL]
  | succ j ih =>
    have hj' : j < us.length := by omega
    obtain ⟨i1, i2⟩ := ih (by omega)
    have hlen : (us.take j).length = j := by simp; omega
    have hle : lastR en b s night j ≤ night + j := by
      clear i1 i2 ih
      induction j with
      | zero => simp [lastR]
      | succ j ih =>
        have := ih (by omega) (by omega) (by simp; omega)
        simp only [lastR]
        split <;> omega
    have haf : growS (kindOf b s) (aftL (kindOf b s) (beginW b s night) (us.take j)) us[j] = afterD b s night (night + 1 + j) := by
      have : (night + 1 + (j : Int) - night).toNat = j + 1 := by omega
      rw [afterD, this, ← eus, take_succ' hj', aftL, aftL, List.foldl_append]; rfl
    rw [take_succ' hj', daysL_snoc, lastL_snoc, hlen, haf]
    have ht : (((night + 1).toNat + j : Nat) : Int) = night + 1 + j := by omega
    rw [i1] at hle
    simp only [lastR, List.all_append, List.all_cons, List.all_nil, Bool.and_true]
    rw [ht, ← i1]
    rw [← i1] at hle
    by_cases hall : ((daysL (kindOf b s) (us.take j) (night + 1).toNat (beginW b s night)).all fun y => withinB en (kindOf b s) y.2) = true
    · have h1 := i2.2 hall
      simp only [hall, h1, decide_true, Bool.true_and, true_and]
      by_cases hw : withinB en (kindOf b s) (afterD b s night (night + 1 + j)) = true
      · simp [hw]; omega
      · simp [hw]
        omega
    · have h1 : ¬ lastR en b s night j = night + j := fun e => hall (i2.1 e)
      simp only [hall, h1, decide_false, Bool.false_and, Bool.false_eq_true, if_false, false_iff, true_and]
      refine ⟨fun e => ?_, False.elim⟩
      have : ((j + 1 : Nat) : Int) = j + 1 := by omega
      omega
theorem lastR_lasts {en : Span → Int} {b : BayD} {s : Nat} {night : Int} (hn : -1 ≤ night) (hn2 : night < b.days.length) : lastR en b s night ((b.days.length : Int) - night - 1).toNat = lastsD en b s night := by
  have := (lastR_eq (en := en) (b := b) (s := s) hn _ rfl ((b.days.length : Int) - night - 1).toNat (by rw [List.length_drop]; omega)).1
  rw [this, lastsD, List.take_of_length_le (by rw [List.length_drop]; omega)]

theorem rlasts_c (b : BayD) (v : BayV) (s : Nat) (night : Int) (hR : BayR w0 h b v) (hB : bayB b = true) (hs : s < b.slots.length) (hn : -1 ≤ night) (hn2 : night < b.days.length) :
    DCall Try.prog w0 47 [.agg (bayC b v), .int .i64 s, .int .i64 night] h (.tup [.int .i64 (lastsD Span.high b s night), .int .i64 (lastsD Span.low b s night)]) h := by
  refine DCall_quiet hmix mf47_ok mf47_b mf47_g (Nat.le_of_ble_eq_true rfl) (by simp [AV.bdd, AV.bdds]) fun hb ha => ex_in ?_
  have bs := bayB_spec hB
  have o1 := hR.kinds.one.1
  have o2 := hR.slots.one.1
  have o3 := hR.days.one.1
  have o4 := hR.nights.one.1
  have o5 := hR.defs.one.1
  have l2 := hR.days.use.1
  simp only [List.length_map] at l2
  simp only [go_sem, mf47, o1, o2, o3, o4, o5, ↓reduceIte, Nat.reduceEqDiff, Nat.reduceAdd, Nat.reduceSub, Nat.reduceMul, Nat.reduceLT, Nat.reduceLeDiff, Int.reduceLE, Int.reduceLT, Int.reduceAdd, Int.reduceSub, Int.reduceMul, Int.reduceEq, Int.reduceBEq, Int.reduceBNe, Int.reduceNeg, Int.reduceToNat, reduceCtorEq]
  refine ⟨(by unfold I64; omega), ?_⟩
  obtain ⟨n, en⟩ : ∃ n, n = ((b.days.length : Int) - night - 1).toNat := ⟨_, rfl⟩
  refine lp_for (S := Unit) (fun j _ => [(1, .int .i64 s), (2, .int .i64 night), (3, .ptr (.own h.length 0)), (8, .int .i64 (lastR Span.high b s night j)), (9, .int .i64 (lastR Span.low b s night j)), (10, .int .i64 (night + 1 + j))])
    (fun _ _ => h ++ [some (.row (bayC b v))]) (fun _ _ => True) n () trivial (by simp [lastR]) (by simp [bayC]) (fun j _ hj _ ih => ?_) (fun _ _ => ?_)
  · refine lp_step hmix L47_0_g [1, 2, 3, 8, 9, 10] L47_0.eq_1 ?_
    have m1 : night + 1 + (j : Int) < b.days.length := by omega
    have ih := ih () trivial
    have hst : ∀ en, lastR en b s night (j + 1) = if decide (lastR en b s night j = night + j) && withinB en (kindOf b s) (afterD b s night (night + 1 + j)) then night + 1 + j else lastR en b s night j := fun en => rfl
    rw [hst, hst] at ih
    generalize lastR Span.high b s night j = a at ih ⊢
    generalize lastR Span.low b s night j = c at ih ⊢
    simp only [go_sem, l2, m1, ↓reduceIte, Nat.reduceEqDiff, Nat.reduceAdd, Nat.reduceSub, Nat.reduceMul, Nat.reduceLT, Nat.reduceLeDiff, Int.reduceLE, Int.reduceLT, Int.reduceAdd, Int.reduceSub, Int.reduceMul, Int.reduceEq, Int.reduceBEq, Int.reduceBNe, Int.reduceNeg, Int.reduceToNat, reduceCtorEq]
    refine rvC_use (rafter_c b v s night (night + 1 + j) hR.app hB hs hn (by omega) (by omega)).v ?_
    generalize afterD b s night (night + 1 + j) = w at ih ⊢
    have he : ∀ x : Int, decide (x = night + j) = (x == night + 1 + j - 1) := fun x => by
      rw [ieq, show night + 1 + (j : Int) - 1 = night + j by omega]
    simp only [he] at ih
    obtain ⟨a', ea'⟩ : ∃ a', a' = if (a == night + 1 + (j : Int) - 1) && withinB Span.high (kindOf b s) w then night + 1 + (j : Int) else a := ⟨_, rfl⟩
    obtain ⟨c', ec'⟩ : ∃ c', c' = if (c == night + 1 + (j : Int) - 1) && withinB Span.low (kindOf b s) w then night + 1 + (j : Int) else c := ⟨_, rfl⟩
    rw [← ea', ← ec'] at ih
    have hjj : night + 1 + ((j + 1 : Nat) : Int) = night + 1 + j + 1 := by omega
    rw [hjj] at ih
    have ih3 := lp_drop (P := Try.prog) (w0 := w0) (r := none) (nt := 54) (Q := quietK w0 [RV.t 6, RV.t 7] h (AV.tup [AV.int IntKind.i64 (lastsD Span.high b s night), AV.int IntKind.i64 (lastsD Span.low b s night)])) (a := L47_0) (l := [some (.row (bayC b v)), some (.row w.c)]) 1 hb (by simp [HBs_some, HBs_none, HBs_nil, FB_cons, FB_nil, row_bdd, AV.bdds, AV.bdd, Pl.bdd, loop_bddT, hR.kinds.bdd, hR.slots.bdd, hR.days.bdd, hR.nights.bdd, hR.defs.bdd, bayC]) (by simp [HBs_some, HBs_none, HBs_nil, FB_cons, FB_nil, row_bdd, AV.bdds, AV.bdd, Pl.bdd, loop_bddT]) ih
    clear ih
    cases ea : (a == night + 1 + (j : Int) - 1) <;> cases ec : (c == night + 1 + (j : Int) - 1) <;> cases hw1 : withinB Span.high (kindOf b s) w <;> cases hw2 : withinB Span.low (kindOf b s) w
    all_goals
      rw [ea, hw1] at ea'
      rw [ec, hw2] at ec'
      simp only [Bool.and_self, Bool.and_false, Bool.false_and, Bool.false_eq_true, if_false, if_true] at ea' ec'
      subst ea'
      subst ec'
      simp only [go_sem, ea, ec, ↓reduceIte, Nat.reduceEqDiff, Nat.reduceAdd, Nat.reduceSub, Nat.reduceMul, Nat.reduceLT, Nat.reduceLeDiff, Int.reduceLE, Int.reduceLT, Int.reduceAdd, Int.reduceSub, Int.reduceMul, Int.reduceEq, Int.reduceBEq, Int.reduceBNe, Int.reduceNeg, Int.reduceToNat, reduceCtorEq]
      repeat' first | (refine And.intro (by unfold I64; omega) ?_) | (refine rdC_q (rkindOf_c b v s hR.app hB hs).v ?_; simp only [go_sem, ec, ↓reduceIte, Nat.reduceEqDiff, Nat.reduceAdd, Nat.reduceSub, Nat.reduceMul, Nat.reduceLT, Nat.reduceLeDiff, Int.reduceLE, Int.reduceLT, Int.reduceAdd, Int.reduceSub, Int.reduceMul, Int.reduceEq, Int.reduceBEq, Int.reduceBNe, Int.reduceNeg, Int.reduceToNat, reduceCtorEq]) | (refine rdC_q (rsure_c _ _).v ?_; simp only [go_sem, hw1, ec, ↓reduceIte, Nat.reduceEqDiff, Nat.reduceAdd, Nat.reduceSub, Nat.reduceMul, Nat.reduceLT, Nat.reduceLeDiff, Int.reduceLE, Int.reduceLT, Int.reduceAdd, Int.reduceSub, Int.reduceMul, Int.reduceEq, Int.reduceBEq, Int.reduceBNe, Int.reduceNeg, Int.reduceToNat, reduceCtorEq]) | (refine rdC_q (rmay_c _ _).v ?_; simp only [go_sem, hw2, ↓reduceIte, Nat.reduceEqDiff, Nat.reduceAdd, Nat.reduceSub, Nat.reduceMul, Nat.reduceLT, Nat.reduceLeDiff, Int.reduceLE, Int.reduceLT, Int.reduceAdd, Int.reduceSub, Int.reduceMul, Int.reduceEq, Int.reduceBEq, Int.reduceBNe, Int.reduceNeg, Int.reduceToNat, reduceCtorEq])
      simpa [bayC, WearD.c] using ih3
  · refine lp_step hmix L47_0_g [1, 2, 3, 8, 9, 10] L47_0.eq_1 ?_
    have m1 : ¬ night + 1 + (n : Int) < b.days.length := by omega
    simp only [go_sem, l2, m1, ↓reduceIte, Nat.reduceEqDiff, Nat.reduceAdd, Nat.reduceSub, Nat.reduceMul, Nat.reduceLT, Nat.reduceLeDiff, Int.reduceLE, Int.reduceLT, Int.reduceAdd, Int.reduceSub, Int.reduceMul, Int.reduceEq, Int.reduceBEq, Int.reduceBNe, Int.reduceNeg, Int.reduceToNat, reduceCtorEq]
    rw [en, lastR_lasts hn hn2, lastR_lasts hn hn2]
end Go.Proofs.Ab

namespace Go.Proofs.Ab
open Go Go.Proofs
variable {w0 : World} {h : Heap}
attribute [local irreducible] ACall ACallV AYield DCall DCallV rvC rdC lp rg dr ex un rv rd'

structure TruthD where
  minutes : Int
  cycles : Int
  rust : Int
@[go_sem] def TruthD.c (t : TruthD) : List AV := [.int .i64 t.minutes, .int .i64 t.cycles, .int .i64 t.rust]
@[simp] theorem TruthD.c_bdd (N : Nat) (s : TruthD) : AV.bdds N s.c := by simp [TruthD.c, AV.bdds, AV.bdd]
end Go.Proofs.Ab

namespace Go.Proofs.Ab
open Go Go.Proofs
variable {w0 : World} {h : Heap}
attribute [local irreducible] ACall ACallV AYield DCall DCallV rvC rdC lp rg dr ex un rv rd'

theorem app_grow {H : Heap} {es b n io k : Nat} {ov : AV} {vs x : List AV} {f : Bool} (hov : n = 0 ∧ ov = .nilS ∧ vs = [] ∨ n ≠ 0 ∧ ov = .sl (.own io 0) n es false ∧ H[io]? = some (some (.row vs)) ∧ vs.length = n * es)
    (hk : H[k]? = some (some (.row x))) (hx : x.length = es) (ho : x.all one = true) (hb : b ≤ 1000000) (hn : n ≤ 1000000) :
    ∃ G, appA w0 H es b ov (.sl (.own k 0) 1 es f) = some (.sl (.own H.length 0) (n + 1) es false, G) ∧ G.length = H.length + 1 ∧ G[H.length]? = some (some (.row (vs ++ x))) ∧ ∀ (i : Nat) c, (n ≠ 0 → i ≠ io) → H[i]? = some (some c) → G[i]? = some (some c) := by
  have r1 : rdn w0 H (.own k 0) (1 * es) = some x := by
    simp only [rdn, hk]; simp [hx]; rw [← hx]; simp
  rcases hov with ⟨h1, h2, h3⟩ | ⟨h1, h2, h3, h4⟩
  · subst h1; subst h2; subst h3
    refine ⟨H ++ [some (.row x)], ?_, by simp, by simp, fun i c _ e => getElem?_app_left e⟩
    simp only [appA, srcOf, esOk_s, if_true, r1, Option.map_some, Option.bind_some]
    rw [if_neg (by omega), if_pos ⟨by omega, ho⟩]
    simp [mkSl]
  · have hlt := get_lt h3
    have r2 : rdn w0 H (.own io 0) (n * es) = some vs := by
      simp only [rdn, h3]; simp [h4]; rw [← h4]; simp
    have hsz : (n + 1) * (b + 1) ≤ 2 ^ 40 := Nat.le_trans (Nat.mul_le_mul (show n + 1 ≤ 1000001 by omega) (show b + 1 ≤ 1000001 by omega)) (by decide)
    refine ⟨H.set io none ++ [some (.row (vs ++ x))], ?_, by simp, by simp, fun i c hi e => ?_⟩
    · rw [h2]
      simp only [appA, srcOf, esOk_s, if_true, r1, Option.map_some, Option.bind_some]
      rw [if_neg (by omega), if_pos ⟨trivial, hsz, ho⟩]
      simp only [Bool.false_eq_true, if_false, r2, Option.bind_some]
    · refine getElem?_app_left ?_
      rw [List.getElem?_set_ne fun e2 => hi h1 e2.symm]; exact e

end Go.Proofs.Ab

namespace Go.Proofs.Ab
open Go

theorem getD_at {α : Type} {l : List α} {i : Nat} {d : α} (h : i < l.length) : l.getD i d = l[i] := by rw [List.getD_eq_getElem?_getD, List.getElem?_eq_getElem h]; rfl
end Go.Proofs.Ab

/- The own layer under the proofs of this seat, part X: what calls of the program come to on an abstract heap. No condition. -/
import Derived.Test.YtammfjjepbekaaaW
import Derived.Test.YtammfjjepbekaaaG
set_option linter.unusedSimpArgs false
set_option linter.unusedVariables false
namespace Go.Proofs.Ab
open Go Go.Proofs
variable {w0 : World} {h : Heap}
attribute [local irreducible] ACall ACallV AYield DCall DCallV rvC rdC lp rg dr ex un rv rd'

theorem WearGrows_c (k : KindD) (w : WearD) (u : UseD) : DCall Try.prog w0 3 [.agg k.c, .agg w.c, .agg u.c] h (.bool true) h := by
  refine DCall_quiet hmix mf3_ok mf3_b mf3_g (Nat.le_of_ble_eq_true rfl) (by simp [AV.bdd, AV.bdds]) fun hb ha => ex_in ?_
  simp only [go_sem, mf3, ↓reduceIte, Nat.reduceEqDiff, Nat.reduceAdd, Nat.reduceSub, Nat.reduceMul, Nat.reduceLT, Nat.reduceLeDiff, Int.reduceLE, Int.reduceLT, Int.reduceAdd, Int.reduceSub, Int.reduceMul, Int.reduceEq, Int.reduceBEq, Int.reduceBNe, Int.reduceNeg, Int.reduceToNat, reduceCtorEq]
  by_cases hf : (kindB k && wornB w && dayB u) = true
  · have hG := Grow_c (w0 := w0) (h := h ++ [some (.row k.c), some (.row w.c), some (.row u.c)]) k w u
    rw [if_pos hf] at hG
    simp only [Bool.and_eq_true] at hf
    obtain ⟨⟨f1, f2⟩, f3⟩ := hf
    refine rvC_use hG.v ?_
    simp only [go_sem, ↓reduceIte, Nat.reduceEqDiff, Nat.reduceAdd, Nat.reduceSub, Nat.reduceMul, Nat.reduceLT, Nat.reduceLeDiff, Int.reduceLE, Int.reduceLT, Int.reduceAdd, Int.reduceSub, Int.reduceMul, Int.reduceEq, Int.reduceBEq, Int.reduceBNe, Int.reduceNeg, Int.reduceToNat, reduceCtorEq]
    refine rvC_use (rkind_c k).v ?_
    simp only [go_sem, f1, ↓reduceIte, Nat.reduceEqDiff, Nat.reduceAdd, Nat.reduceSub, Nat.reduceMul, Nat.reduceLT, Nat.reduceLeDiff, Int.reduceLE, Int.reduceLT, Int.reduceAdd, Int.reduceSub, Int.reduceMul, Int.reduceEq, Int.reduceBEq, Int.reduceBNe, Int.reduceNeg, Int.reduceToNat, reduceCtorEq]
    refine rvC_use (rworn_c w).v ?_
    simp only [go_sem, f2, ↓reduceIte, Nat.reduceEqDiff, Nat.reduceAdd, Nat.reduceSub, Nat.reduceMul, Nat.reduceLT, Nat.reduceLeDiff, Int.reduceLE, Int.reduceLT, Int.reduceAdd, Int.reduceSub, Int.reduceMul, Int.reduceEq, Int.reduceBEq, Int.reduceBNe, Int.reduceNeg, Int.reduceToNat, reduceCtorEq]
    refine rvC_use (rday_c u).v ?_
    simp only [go_sem, f3, ↓reduceIte, Nat.reduceEqDiff, Nat.reduceAdd, Nat.reduceSub, Nat.reduceMul, Nat.reduceLT, Nat.reduceLeDiff, Int.reduceLE, Int.reduceLT, Int.reduceAdd, Int.reduceSub, Int.reduceMul, Int.reduceEq, Int.reduceBEq, Int.reduceBNe, Int.reduceNeg, Int.reduceToNat, reduceCtorEq]
    refine rdC_q (rgrow_c k w u f1 f2 f3).v ?_
    rw [growR_eq k w u f1 f2 f3]
    simp only [go_sem, ↓reduceIte, Nat.reduceEqDiff, Nat.reduceAdd, Nat.reduceSub, Nat.reduceMul, Nat.reduceLT, Nat.reduceLeDiff, Int.reduceLE, Int.reduceLT, Int.reduceAdd, Int.reduceSub, Int.reduceMul, Int.reduceEq, Int.reduceBEq, Int.reduceBNe, Int.reduceNeg, Int.reduceToNat, reduceCtorEq]
    refine rdC_q known_c.v ?_
    simp only [go_sem, ↓reduceIte, Nat.reduceEqDiff, Nat.reduceAdd, Nat.reduceSub, Nat.reduceMul, Nat.reduceLT, Nat.reduceLeDiff, Int.reduceLE, Int.reduceLT, Int.reduceAdd, Int.reduceSub, Int.reduceMul, Int.reduceEq, Int.reduceBEq, Int.reduceBNe, Int.reduceNeg, Int.reduceToNat, reduceCtorEq]
  · have hG := Grow_c (w0 := w0) (h := h ++ [some (.row k.c), some (.row w.c), some (.row u.c)]) k w u
    rw [if_neg hf] at hG
    refine rvC_use hG.v ?_
    simp only [go_sem, noWear, ↓reduceIte, Nat.reduceEqDiff, Nat.reduceAdd, Nat.reduceSub, Nat.reduceMul, Nat.reduceLT, Nat.reduceLeDiff, Int.reduceLE, Int.reduceLT, Int.reduceAdd, Int.reduceSub, Int.reduceMul, Int.reduceEq, Int.reduceBEq, Int.reduceBNe, Int.reduceNeg, Int.reduceToNat, reduceCtorEq]
    refine rvC_use (rkind_c k).v ?_
    simp only [go_sem, ↓reduceIte, Nat.reduceEqDiff, Nat.reduceAdd, Nat.reduceSub, Nat.reduceMul, Nat.reduceLT, Nat.reduceLeDiff, Int.reduceLE, Int.reduceLT, Int.reduceAdd, Int.reduceSub, Int.reduceMul, Int.reduceEq, Int.reduceBEq, Int.reduceBNe, Int.reduceNeg, Int.reduceToNat, reduceCtorEq]
    refine ⟨fun f1 => ?_, fun f1 => ?_⟩
    · refine rvC_use (rworn_c w).v ?_
      simp only [go_sem, ↓reduceIte, Nat.reduceEqDiff, Nat.reduceAdd, Nat.reduceSub, Nat.reduceMul, Nat.reduceLT, Nat.reduceLeDiff, Int.reduceLE, Int.reduceLT, Int.reduceAdd, Int.reduceSub, Int.reduceMul, Int.reduceEq, Int.reduceBEq, Int.reduceBNe, Int.reduceNeg, Int.reduceToNat, reduceCtorEq]
      refine ⟨fun f2 => ?_, fun f2 => ?_⟩
      · have f3 : dayB u = false := by simpa [f1, f2] using hf
        refine rvC_use (rday_c u).v ?_
        simp only [go_sem, f3, ↓reduceIte, Nat.reduceEqDiff, Nat.reduceAdd, Nat.reduceSub, Nat.reduceMul, Nat.reduceLT, Nat.reduceLeDiff, Int.reduceLE, Int.reduceLT, Int.reduceAdd, Int.reduceSub, Int.reduceMul, Int.reduceEq, Int.reduceBEq, Int.reduceBNe, Int.reduceNeg, Int.reduceToNat, reduceCtorEq]
        refine rvC_use known_c.v ?_
        simp only [go_sem, ↓reduceIte, Nat.reduceEqDiff, Nat.reduceAdd, Nat.reduceSub, Nat.reduceMul, Nat.reduceLT, Nat.reduceLeDiff, Int.reduceLE, Int.reduceLT, Int.reduceAdd, Int.reduceSub, Int.reduceMul, Int.reduceEq, Int.reduceBEq, Int.reduceBNe, Int.reduceNeg, Int.reduceToNat, reduceCtorEq]
      · refine rvC_use known_c.v ?_
        simp only [go_sem, ↓reduceIte, Nat.reduceEqDiff, Nat.reduceAdd, Nat.reduceSub, Nat.reduceMul, Nat.reduceLT, Nat.reduceLeDiff, Int.reduceLE, Int.reduceLT, Int.reduceAdd, Int.reduceSub, Int.reduceMul, Int.reduceEq, Int.reduceBEq, Int.reduceBNe, Int.reduceNeg, Int.reduceToNat, reduceCtorEq]
    · refine rvC_use known_c.v ?_
      simp only [go_sem, ↓reduceIte, Nat.reduceEqDiff, Nat.reduceAdd, Nat.reduceSub, Nat.reduceMul, Nat.reduceLT, Nat.reduceLeDiff, Int.reduceLE, Int.reduceLT, Int.reduceAdd, Int.reduceSub, Int.reduceMul, Int.reduceEq, Int.reduceBEq, Int.reduceBNe, Int.reduceNeg, Int.reduceToNat, reduceCtorEq]
end Go.Proofs.Ab

namespace Go.Proofs.Ab
open Go Go.Proofs
variable {w : World} {cs : List Value}

def kindRw : Rw := .int (.int (.int (.int (.int (.int (.int (.int .nil)))))))
def wearRw : Rw := .int (.int (.int (.int (.int (.int .nil)))))
def useRw : Rw := .int (.int (.int (.int (.int (.int (.bool .nil))))))
theorem kind_of (g : Gd w kindRw cs) : ∃ k : KindD, cs.map inj = k.c := by
  obtain ⟨a0, _, rfl, _, a1, _, rfl, _, a2, _, rfl, _, a3, _, rfl, _, a4, _, rfl, _, a5, _, rfl, _, a6, _, rfl, _, a7, _, rfl, _, rfl⟩ := g
  exact ⟨⟨a0, a1, a2, ⟨a3, a4⟩, ⟨a5, a6⟩, a7⟩, rfl⟩
theorem wear_of (g : Gd w wearRw cs) : ∃ k : WearD, cs.map inj = k.c := by
  obtain ⟨a0, _, rfl, _, a1, _, rfl, _, a2, _, rfl, _, a3, _, rfl, _, a4, _, rfl, _, a5, _, rfl, _, rfl⟩ := g
  exact ⟨⟨⟨a0, a1⟩, ⟨a2, a3⟩, ⟨a4, a5⟩⟩, rfl⟩
theorem use_of (g : Gd w useRw cs) : ∃ k : UseD, cs.map inj = k.c := by
  obtain ⟨a0, _, rfl, _, a1, _, rfl, _, a2, _, rfl, _, a3, _, rfl, _, a4, _, rfl, _, a5, _, rfl, _, b, _, rfl, rfl⟩ := g
  exact ⟨⟨⟨a0, a1⟩, ⟨a2, a3⟩, ⟨a4, a5⟩, b⟩, rfl⟩
end Go.Proofs.Ab

namespace Go.Proofs.Ab
open Go Go.Proofs
variable {w0 : World} {h : Heap}
attribute [local irreducible] ACall ACallV AYield DCall DCallV rvC rdC lp rg dr ex un rv rd'

theorem kindOf_at {b : BayD} (hB : bayB b = true) {s : Nat} (hs : s < b.slots.length) : ∃ kn : Nat, b.slots[s].kind = kn ∧ ∃ hk : kn < b.kinds.length, kindOf b s = b.kinds[kn] := by
  have bs := bayB_spec hB
  have hsl := bs.2.2.2.2.2.2.2.2.2.2.2.1 b.slots[s] (List.getElem_mem hs)
  obtain ⟨kn, hkn⟩ : ∃ kn : Nat, b.slots[s].kind = kn := ⟨b.slots[s].kind.toNat, by omega⟩
  have hkn' : b.slots[s].kind.toNat = kn := by omega
  have hkl : kn < b.kinds.length := by omega
  exact ⟨kn, hkn, hkl, by simp [kindOf, hs, hkn', hkl]⟩
theorem kindOf_ok {b : BayD} (hB : bayB b = true) {s : Nat} (hs : s < b.slots.length) : kindB (kindOf b s) = true := by
  obtain ⟨kn, _, hk, e⟩ := kindOf_at hB hs
  rw [e]; exact (bayB_spec hB).2.2.2.2.2.2.2.2.2.2.1 _ (List.getElem_mem hk)
theorem beginW_ok {b : BayD} (hB : bayB b = true) {s : Nat} (hs : s < b.slots.length) (night : Int) : wornB (beginW b s night) = true := by
  unfold beginW
  split
  · rw [List.getElem?_eq_getElem hs]; exact ((bayB_spec hB).2.2.2.2.2.2.2.2.2.2.2.1 _ (List.getElem_mem hs)).2.2
  · rfl

theorem rkindOf_c (b : BayD) (v : BayV) (s : Nat) (hR : BayR w0 h b v) (hB : bayB b = true) (hs : s < b.slots.length) : DCall Try.prog w0 28 [.agg (bayC b v), .int .i64 s] h (.agg (kindOf b s).c) h := by
  refine DCall_quiet hmix mf28_ok mf28_b mf28_g (Nat.le_of_ble_eq_true rfl) (by simp [AV.bdd, AV.bdds]) fun hb ha => ex_in ?_
  have o1 := hR.kinds.one.1
  have o2 := hR.slots.one.1
  have o3 := hR.days.one.1
  have o4 := hR.nights.one.1
  have o5 := hR.defs.one.1
  obtain ⟨_, sp, s2, s3, s4⟩ := hR.slots.use
  obtain ⟨_, kp, k2, k3, k4⟩ := hR.kinds.use
  simp only [List.length_map] at s2 k2
  obtain ⟨kn, hkn, hkl, hkind⟩ := kindOf_at hB hs
  have a1 := s2 s hs
  have a2 : ∀ L, rd w0 (h ++ L) ((sp.add (s * 7)).add 0) = some (.int .i64 (kn : Int)) := fun L => rd_get (rdn_app (s3 s _ (by simp [hs]; rfl))) (by simp [PartD.c, hkn])
  have a3 := k2 kn hkl
  have a4 : ∀ L, rdn w0 (h ++ L) (kp.add (kn * 8)) 8 = some (kindOf b s).c := fun L => rdn_app (k3 kn _ (by rw [hkind]; simp [hkl]))
  simp only [go_sem, mf28, o1, o2, o3, o4, o5, a1, a2, a3, a4, ↓reduceIte, Nat.reduceEqDiff, Nat.reduceAdd, Nat.reduceSub, Nat.reduceMul, Nat.reduceLT, Nat.reduceLeDiff, Int.reduceLE, Int.reduceLT, Int.reduceAdd, Int.reduceSub, Int.reduceMul, Int.reduceEq, Int.reduceBEq, Int.reduceBNe, Int.reduceNeg, Int.reduceToNat, reduceCtorEq]

theorem rsure_c (k : KindD) (w : WearD) : DCall Try.prog w0 70 [.agg k.c, .agg w.c] h (.bool (withinB Span.high k w)) h := by
  refine DCall_quiet hmix mf70_ok mf70_b mf70_g (Nat.le_of_ble_eq_true rfl) (by simp [AV.bdd, AV.bdds]) fun hb ha => ex_in ?_
  simp only [go_sem, mf70, ↓reduceIte, Nat.reduceEqDiff, Nat.reduceAdd, Nat.reduceSub, Nat.reduceMul, Nat.reduceLT, Nat.reduceLeDiff, Int.reduceLE, Int.reduceLT, Int.reduceAdd, Int.reduceSub, Int.reduceMul, Int.reduceEq, Int.reduceBEq, Int.reduceBNe, Int.reduceNeg, Int.reduceToNat, reduceCtorEq]
  refine ⟨fun a => ⟨fun b => ?_, fun b => ?_⟩, fun a => ?_⟩
  · simp [withinB, a, b]
  · have : ¬ w.cycles.high ≤ k.cycles := by omega
    simp [withinB, this]
  · have : ¬ w.minutes.high ≤ k.minutes := by omega
    simp [withinB, this]
theorem rmay_c (k : KindD) (w : WearD) : DCall Try.prog w0 96 [.agg k.c, .agg w.c] h (.bool (withinB Span.low k w)) h := by
  refine DCall_quiet hmix mf96_ok mf96_b mf96_g (Nat.le_of_ble_eq_true rfl) (by simp [AV.bdd, AV.bdds]) fun hb ha => ex_in ?_
  simp only [go_sem, mf96, ↓reduceIte, Nat.reduceEqDiff, Nat.reduceAdd, Nat.reduceSub, Nat.reduceMul, Nat.reduceLT, Nat.reduceLeDiff, Int.reduceLE, Int.reduceLT, Int.reduceAdd, Int.reduceSub, Int.reduceMul, Int.reduceEq, Int.reduceBEq, Int.reduceBNe, Int.reduceNeg, Int.reduceToNat, reduceCtorEq]
  refine ⟨fun a => ⟨fun b => ?_, fun b => ?_⟩, fun a => ?_⟩
  · simp [withinB, a, b]
  · have : ¬ w.cycles.low ≤ k.cycles := by omega
    simp [withinB, this]
  · have : ¬ w.minutes.low ≤ k.minutes := by omega
    simp [withinB, this]

def aftL (k : KindD) (w : WearD) (us : List UseD) : WearD := us.foldl (growS k) w
theorem aftL_ok {k : KindD} (hk : kindB k = true) : ∀ {us : List UseD} {w : WearD}, wornB w = true → (∀ u ∈ us, dayB u = true) → wornB (aftL k w us) = true
  | [], _, hw, _ => hw
  | u :: us, w, hw, hu => aftL_ok (us := us) (w := growS k w u) hk (grow_worn hk hw (hu u List.mem_cons_self)) fun x hx => hu x (List.mem_cons_of_mem _ hx)
def afterD (b : BayD) (s : Nat) (night day : Int) : WearD := aftL (kindOf b s) (beginW b s night) ((b.days.drop (night + 1).toNat).take (day - night).toNat)

theorem rafter_c (b : BayD) (v : BayV) (s : Nat) (night day : Int) (hR : BayR w0 h b v) (hB : bayB b = true) (hs : s < b.slots.length) (hn : -1 ≤ night) (hd : night ≤ day) (hd2 : day < b.days.length) :
    DCall Try.prog w0 48 [.agg (bayC b v), .int .i64 s, .int .i64 night, .int .i64 day] h (.agg (afterD b s night day).c) h := by
  refine DCall_quiet hmix mf48_ok mf48_b mf48_g (Nat.le_of_ble_eq_true rfl) (by simp [AV.bdd, AV.bdds]) fun hb ha => ex_in ?_
  have bs := bayB_spec hB
  have o1 := hR.kinds.one.1
  have o2 := hR.slots.one.1
  have o3 := hR.days.one.1
  have o4 := hR.nights.one.1
  have o5 := hR.defs.one.1
  obtain ⟨_, sp, s2, s3, s4⟩ := hR.slots.use
  obtain ⟨_, dp, d2, d3, d4⟩ := hR.days.use
  simp only [List.length_map] at s2 d2
  have a1 := s2 s hs
  have a2 : ∀ L, rdn w0 (h ++ L) (sp.add (s * 7)) 7 = some b.slots[s].c := fun L => rdn_app (s3 s _ (by simp [hs]))
  have a3 : ∀ L, rdn w0 (h ++ L) ((sp.add (s * 7)).add 1) 6 = some (WearD.c b.slots[s].wear) := fun L => (rdn_get (a2 L)).2 1 6 (by omega)
  obtain ⟨us, eus⟩ : ∃ us, us = (b.days.drop (night + 1).toNat).take (day - night).toNat := ⟨_, rfl⟩
  have hul : us.length = (day - night).toNat := by rw [eus, List.length_take, List.length_drop]; omega
  have hua : ∀ (j : Nat) (hj : j < us.length), ∃ hj' : (night + 1).toNat + j < b.days.length, us[j] = b.days[(night + 1).toNat + j] := fun j hj => by
    have : (night + 1).toNat + j < b.days.length := by omega
    exact ⟨this, by simp [eus]⟩
  have huo : ∀ u ∈ us, dayB u = true := fun u hu => by
    rw [eus] at hu
    exact bs.2.2.2.2.2.2.2.2.2.2.2.2.1 _ (List.mem_of_mem_drop (List.mem_of_mem_take hu))
  have hk := kindOf_ok hB hs
  have hw := beginW_ok hB hs night
  have key : ∀ w : WearD, w = beginW b s night → lp Try.prog w0 none 37 h.length (quietK w0 [.c 8 (some 6)] h (.agg (afterD b s night day).c)) L48_0 [.inBlk 0, .code (.seq (.reg [.op (some 36) none (.load (.t 9) (some 6)), .op none none (.store (.t 8) (.t 36) 6)]) .ret)]
      [(1, .int .i64 s), (3, .int .i64 day), (4, .ptr (.own h.length 0)), (8, .ptr (.own (h.length + 1) 0)), (9, .ptr (.own (h.length + 2) 0)), (10, .int .i64 (night + 1))]
      (h ++ [some (.row (bayC b v)), some (.row [.int .i64 0, .int .i64 0, .int .i64 0, .int .i64 0, .int .i64 0, .int .i64 0]), some (.row w.c)]) := by
    intro w ew
    refine lp_for (S := Unit) (fun j _ => [(1, .int .i64 s), (3, .int .i64 day), (4, .ptr (.own h.length 0)), (8, .ptr (.own (h.length + 1) 0)), (9, .ptr (.own (h.length + 2) 0)), (10, .int .i64 (night + 1 + j))])
      (fun j _ => h ++ [some (.row (bayC b v)), some (.row [.int .i64 0, .int .i64 0, .int .i64 0, .int .i64 0, .int .i64 0, .int .i64 0]), some (.row (aftL (kindOf b s) w (us.take j)).c)]) (fun _ _ => True) us.length () trivial (by simp) (by simp [aftL]) (fun j _ hj _ ih => ?_) (fun _ _ => ?_)
    · refine lp_step hmix L48_0_g [1, 3, 4, 8, 9, 10] L48_0.eq_1 ?_
      have m1 : night + 1 + (j : Int) ≤ day := by omega
      obtain ⟨hj', e⟩ := hua j hj
      obtain ⟨q, hq⟩ : ∃ q : Nat, night + 1 + (j : Int) = q := ⟨(night + 1 + (j : Int)).toNat, by omega⟩
      have hq2 : q = (night + 1).toNat + j := by omega
      have i1 := d2 q (by omega)
      have i2 : ∀ L, rdn w0 (h ++ L) (dp.add (q * 7)) 7 = some us[j].c := fun L => rdn_app (d3 q _ (by simp only [hq2, List.getElem?_map, List.getElem?_eq_getElem hj', e]; rfl))
      have ho := aftL_ok (us := us.take j) hk (ew ▸ hw) fun u hu => huo u (List.mem_of_mem_take hu)
      have hu := huo us[j] (List.getElem_mem hj)
      have hst : growR (kindOf b s) (aftL (kindOf b s) w (us.take j)) us[j] = aftL (kindOf b s) w (us.take (j + 1)) := by
        rw [growR_eq _ _ _ hk ho hu, take_succ' hj, aftL, aftL, List.foldl_append]; rfl
      have ih := ih () trivial
      rw [← hst] at ih
      generalize aftL (kindOf b s) w (us.take j) = wj at ho ih ⊢
      have hq' : night + 1 + ((j + 1 : Nat) : Int) = (q : Int) + 1 := by omega
      rw [hq'] at ih
      rw [hq] at m1 ⊢
      simp only [go_sem, m1, i1, i2, ↓reduceIte, Nat.reduceEqDiff, Nat.reduceAdd, Nat.reduceSub, Nat.reduceMul, Nat.reduceLT, Nat.reduceLeDiff, Int.reduceLE, Int.reduceLT, Int.reduceAdd, Int.reduceSub, Int.reduceMul, Int.reduceEq, Int.reduceBEq, Int.reduceBNe, Int.reduceNeg, Int.reduceToNat, reduceCtorEq]
      refine rdC_q (rkindOf_c b v s hR.app hB hs).v ?_
      simp only [go_sem, i1, i2, ↓reduceIte, Nat.reduceEqDiff, Nat.reduceAdd, Nat.reduceSub, Nat.reduceMul, Nat.reduceLT, Nat.reduceLeDiff, Int.reduceLE, Int.reduceLT, Int.reduceAdd, Int.reduceSub, Int.reduceMul, Int.reduceEq, Int.reduceBEq, Int.reduceBNe, Int.reduceNeg, Int.reduceToNat, reduceCtorEq]
      refine rdC_q (rgrow_c (kindOf b s) wj us[j] hk ho hu).v ?_
      simp only [go_sem, ↓reduceIte, Nat.reduceEqDiff, Nat.reduceAdd, Nat.reduceSub, Nat.reduceMul, Nat.reduceLT, Nat.reduceLeDiff, Int.reduceLE, Int.reduceLT, Int.reduceAdd, Int.reduceSub, Int.reduceMul, Int.reduceEq, Int.reduceBEq, Int.reduceBNe, Int.reduceNeg, Int.reduceToNat, reduceCtorEq]
      exact ⟨(by unfold I64; omega), by simpa [WearD.c, bayC] using ih⟩
    · refine lp_step hmix L48_0_g [1, 3, 4, 8, 9, 10] L48_0.eq_1 ?_
      have m1 : ¬ night + 1 + (us.length : Int) ≤ day := by omega
      rw [List.take_of_length_le (Nat.le_refl _)]
      simp only [go_sem, m1, ↓reduceIte, Nat.reduceEqDiff, Nat.reduceAdd, Nat.reduceSub, Nat.reduceMul, Nat.reduceLT, Nat.reduceLeDiff, Int.reduceLE, Int.reduceLT, Int.reduceAdd, Int.reduceSub, Int.reduceMul, Int.reduceEq, Int.reduceBEq, Int.reduceBNe, Int.reduceNeg, Int.reduceToNat, reduceCtorEq]
      simp [afterD, ew, eus, WearD.c]
  simp only [go_sem, mf48, o1, o2, o3, o4, o5, ↓reduceIte, Nat.reduceEqDiff, Nat.reduceAdd, Nat.reduceSub, Nat.reduceMul, Nat.reduceLT, Nat.reduceLeDiff, Int.reduceLE, Int.reduceLT, Int.reduceAdd, Int.reduceSub, Int.reduceMul, Int.reduceEq, Int.reduceBEq, Int.reduceBNe, Int.reduceNeg, Int.reduceToNat, reduceCtorEq]
  refine ⟨fun e => ?_, fun e => ?_⟩
  · simp only [go_sem, a1, a3, ↓reduceIte, Nat.reduceEqDiff, Nat.reduceAdd, Nat.reduceSub, Nat.reduceMul, Nat.reduceLT, Nat.reduceLeDiff, Int.reduceLE, Int.reduceLT, Int.reduceAdd, Int.reduceSub, Int.reduceMul, Int.reduceEq, Int.reduceBEq, Int.reduceBNe, Int.reduceNeg, Int.reduceToNat, reduceCtorEq]
    exact ⟨(by unfold I64; omega), by simpa [WearD.c, bayC] using key b.slots[s].wear (by simp [beginW, e, hs])⟩
  · have : ¬ night < 0 := by omega
    exact ⟨(by unfold I64; omega), by simpa [WearD.c, bayC] using key ⟨⟨0, 0⟩, ⟨0, 0⟩, ⟨0, 0⟩⟩ (by simp [beginW, this])⟩
end Go.Proofs.Ab

namespace Go.Proofs.Ab
open Go Go.Proofs
variable {w0 : World} {h : Heap}
attribute [local irreducible] ACall ACallV AYield DCall DCallV rvC rdC lp rg dr ex un rv rd'

theorem rbay_c (b : BayD) (v : BayV) (hR : BayR w0 h b v) : DCall Try.prog w0 22 [.agg (bayC b v)] h (.bool (bayB b)) h := by
  refine DCall_quiet hmix mf22_ok mf22_b mf22_g (Nat.le_of_ble_eq_true rfl) (by simp [AV.bdd, AV.bdds]) fun hb ha => ex_in ?_
  have l0 := hR.len
  obtain ⟨k1, kp, k2, k3, k4⟩ := hR.kinds.use
  obtain ⟨s1, sp, s2, s3, s4⟩ := hR.slots.use
  obtain ⟨d1, dp, d2, d3, d4⟩ := hR.days.use
  have n1 := hR.nights.use.1
  obtain ⟨f1, fp, f2, f3, f4⟩ := hR.defs.use
  simp only [List.length_map] at k1 s1 d1 n1 f1 k2 s2 d2 f2
  have o1 := hR.kinds.one.1
  have o2 := hR.slots.one.1
  have o3 := hR.days.one.1
  have o4 := hR.nights.one.1
  have o5 := hR.defs.one.1
  simp only [go_sem, mf22, o1, o2, o3, o4, o5, k1, s1, d1, n1, f1, ↓reduceIte, Nat.reduceEqDiff, Nat.reduceAdd, Nat.reduceSub, Nat.reduceMul, Nat.reduceLT, Nat.reduceLeDiff, Int.reduceLE, Int.reduceLT, Int.reduceAdd, Int.reduceSub, Int.reduceMul, Int.reduceEq, Int.reduceBEq, Int.reduceBNe, Int.reduceNeg, Int.reduceToNat, reduceCtorEq]
  refine rvC_use (rin_c _ _ _).v ?_
  simp only [go_sem, k1, s1, d1, n1, f1, ↓reduceIte, Nat.reduceEqDiff, Nat.reduceAdd, Nat.reduceSub, Nat.reduceMul, Nat.reduceLT, Nat.reduceLeDiff, Int.reduceLE, Int.reduceLT, Int.reduceAdd, Int.reduceSub, Int.reduceMul, Int.reduceEq, Int.reduceBEq, Int.reduceBNe, Int.reduceNeg, Int.reduceToNat, reduceCtorEq]
  refine ⟨fun e1 => ?_, fun e => by simp [bayB, e]⟩
  refine rvC_use (rin_c _ _ _).v ?_
  simp only [go_sem, k1, s1, d1, n1, f1, ↓reduceIte, Nat.reduceEqDiff, Nat.reduceAdd, Nat.reduceSub, Nat.reduceMul, Nat.reduceLT, Nat.reduceLeDiff, Int.reduceLE, Int.reduceLT, Int.reduceAdd, Int.reduceSub, Int.reduceMul, Int.reduceEq, Int.reduceBEq, Int.reduceBNe, Int.reduceNeg, Int.reduceToNat, reduceCtorEq]
  refine ⟨fun e2 => ?_, fun e => by simp [bayB, e]⟩
  refine rvC_use (rin_c _ _ _).v ?_
  simp only [go_sem, k1, s1, d1, n1, f1, ↓reduceIte, Nat.reduceEqDiff, Nat.reduceAdd, Nat.reduceSub, Nat.reduceMul, Nat.reduceLT, Nat.reduceLeDiff, Int.reduceLE, Int.reduceLT, Int.reduceAdd, Int.reduceSub, Int.reduceMul, Int.reduceEq, Int.reduceBEq, Int.reduceBNe, Int.reduceNeg, Int.reduceToNat, reduceCtorEq]
  refine ⟨fun e3 => ?_, fun e => by simp [bayB, e]⟩
  refine ⟨fun e4 => ?_, fun e => ?_⟩
  · refine rvC_use (rin_c _ _ _).v ?_
    simp only [go_sem, k1, s1, d1, n1, f1, ↓reduceIte, Nat.reduceEqDiff, Nat.reduceAdd, Nat.reduceSub, Nat.reduceMul, Nat.reduceLT, Nat.reduceLeDiff, Int.reduceLE, Int.reduceLT, Int.reduceAdd, Int.reduceSub, Int.reduceMul, Int.reduceEq, Int.reduceBEq, Int.reduceBNe, Int.reduceNeg, Int.reduceToNat, reduceCtorEq]
    refine ⟨fun e5 => ⟨fun e6 => ?_, fun e6 => ?_⟩, fun e => by simp [bayB, e]⟩
    · have : ¬ b.defs.length ≤ 8 := by omega
      simp [bayB, this]
    refine lp_all (fun j => [(1, .ptr (.own h.length 0)), (3, .int .i64 j)]) (fun j => ∀ hj : j < b.kinds.length, kindB b.kinds[j] = true) b.kinds.length rfl (fun j hj hi ih => ?_) (fun ek => ?_)
    · refine lp_step hmix L22_0_g [1, 3] L22_0.eq_1 ?_
      have i1 := k2 j hj
      have i2 : ∀ L, rdn w0 (h ++ L) (kp.add (j * 8)) 8 = some b.kinds[j].c := fun L => rdn_app (k3 j _ (by simp [hj]))
      have i3 : (j : Int) < b.kinds.length := by omega
      simp only [go_sem, i1, i2, i3, k1, ↓reduceIte, Nat.reduceEqDiff, Nat.reduceAdd, Nat.reduceSub, Nat.reduceMul, Nat.reduceLT, Nat.reduceLeDiff, Int.reduceLE, Int.reduceLT, Int.reduceAdd, Int.reduceSub, Int.reduceMul, Int.reduceEq, Int.reduceBEq, Int.reduceBNe, Int.reduceNeg, Int.reduceToNat, reduceCtorEq]
      refine rvC_use (rkind_c b.kinds[j]).v ?_
      simp only [go_sem, ↓reduceIte, Nat.reduceEqDiff, Nat.reduceAdd, Nat.reduceSub, Nat.reduceMul, Nat.reduceLT, Nat.reduceLeDiff, Int.reduceLE, Int.reduceLT, Int.reduceAdd, Int.reduceSub, Int.reduceMul, Int.reduceEq, Int.reduceBEq, Int.reduceBNe, Int.reduceNeg, Int.reduceToNat, reduceCtorEq]
      refine ⟨fun e => ?_, fun e => ⟨(by unfold I64; omega), ih fun _ => e⟩⟩
      have : b.kinds.all kindB = false := List.all_eq_false.2 ⟨_, List.getElem_mem hj, by simp [e]⟩
      simp [bayB, this]
    refine lp_step hmix L22_0_g [1, 3] L22_0.eq_1 ?_
    have x1 : ¬ (b.kinds.length : Int) < b.kinds.length := by omega
    simp only [go_sem, x1, s1, k1, ↓reduceIte, Nat.reduceEqDiff, Nat.reduceAdd, Nat.reduceSub, Nat.reduceMul, Nat.reduceLT, Nat.reduceLeDiff, Int.reduceLE, Int.reduceLT, Int.reduceAdd, Int.reduceSub, Int.reduceMul, Int.reduceEq, Int.reduceBEq, Int.reduceBNe, Int.reduceNeg, Int.reduceToNat, reduceCtorEq]
    have ek : b.kinds.all kindB = true := List.all_eq_true.2 fun x hx => by
      obtain ⟨i, hi, rfl⟩ := List.getElem_of_mem hx
      exact ek i hi hi
    refine lp_all (fun j => [(1, .ptr (.own h.length 0)), (4, .int .i64 j)]) (fun j => ∀ hj : j < b.slots.length, partB b b.slots[j] = true) b.slots.length rfl (fun j hj hi ih => ?_) (fun es => ?_)
    · refine lp_step hmix L22_1_g [1, 4] L22_1.eq_1 ?_
      have i1 := s2 j hj
      have i2 : ∀ L, rdn w0 (h ++ L) (sp.add (j * 7)) 7 = some b.slots[j].c := fun L => rdn_app (s3 j _ (by simp [hj]))
      have i4 : ∀ L, rd w0 (h ++ L) ((sp.add (j * 7)).add 0) = some (.int .i64 b.slots[j].kind) := fun L => rd_get (i2 L) rfl
      have i5 : ∀ L, rdn w0 (h ++ L) ((sp.add (j * 7)).add 1) 6 = some (WearD.c b.slots[j].wear) := fun L => (rdn_get (i2 L)).2 1 6 (by omega)
      have i3 : (j : Int) < b.slots.length := by omega
      simp only [go_sem, i1, i4, i5, i3, k1, s1, ↓reduceIte, Nat.reduceEqDiff, Nat.reduceAdd, Nat.reduceSub, Nat.reduceMul, Nat.reduceLT, Nat.reduceLeDiff, Int.reduceLE, Int.reduceLT, Int.reduceAdd, Int.reduceSub, Int.reduceMul, Int.reduceEq, Int.reduceBEq, Int.reduceBNe, Int.reduceNeg, Int.reduceToNat, reduceCtorEq]
      refine ⟨(by unfold I64; omega), ?_⟩
      refine rdC_q (rin_c _ _ _).v ?_
      simp only [go_sem, i1, i4, i5, s1, ↓reduceIte, Nat.reduceEqDiff, Nat.reduceAdd, Nat.reduceSub, Nat.reduceMul, Nat.reduceLT, Nat.reduceLeDiff, Int.reduceLE, Int.reduceLT, Int.reduceAdd, Int.reduceSub, Int.reduceMul, Int.reduceEq, Int.reduceBEq, Int.reduceBNe, Int.reduceNeg, Int.reduceToNat, reduceCtorEq]
      have no : partB b b.slots[j] = false → bayB b = false := fun e => by
        have : b.slots.all (partB b) = false := List.all_eq_false.2 ⟨_, List.getElem_mem hj, by simp [e]⟩
        simp [bayB, this]
      refine ⟨fun e => ?_, fun e => by rw [no (by simp [partB, e])]⟩
      refine rdC_q (rworn_c b.slots[j].wear).v ?_
      simp only [go_sem, ↓reduceIte, Nat.reduceEqDiff, Nat.reduceAdd, Nat.reduceSub, Nat.reduceMul, Nat.reduceLT, Nat.reduceLeDiff, Int.reduceLE, Int.reduceLT, Int.reduceAdd, Int.reduceSub, Int.reduceMul, Int.reduceEq, Int.reduceBEq, Int.reduceBNe, Int.reduceNeg, Int.reduceToNat, reduceCtorEq]
      refine ⟨fun e' => by rw [no (by simp [partB, e'])], fun e' => ⟨(by unfold I64; omega), ih fun _ => by simp [partB, e, e']⟩⟩
    refine lp_step hmix L22_1_g [1, 4] L22_1.eq_1 ?_
    have x2 : ¬ (b.slots.length : Int) < b.slots.length := by omega
    simp only [go_sem, x2, d1, s1, ↓reduceIte, Nat.reduceEqDiff, Nat.reduceAdd, Nat.reduceSub, Nat.reduceMul, Nat.reduceLT, Nat.reduceLeDiff, Int.reduceLE, Int.reduceLT, Int.reduceAdd, Int.reduceSub, Int.reduceMul, Int.reduceEq, Int.reduceBEq, Int.reduceBNe, Int.reduceNeg, Int.reduceToNat, reduceCtorEq]
    have es : b.slots.all (partB b) = true := List.all_eq_true.2 fun x hx => by
      obtain ⟨i, hi, rfl⟩ := List.getElem_of_mem hx
      exact es i hi hi
    refine lp_all (fun j => [(1, .ptr (.own h.length 0)), (5, .int .i64 j)]) (fun j => ∀ hj : j < b.days.length, dayB b.days[j] = true) b.days.length rfl (fun j hj hi ih => ?_) (fun ed => ?_)
    · refine lp_step hmix L22_2_g [1, 5] L22_2.eq_1 ?_
      have i1 := d2 j hj
      have i2 : ∀ L, rdn w0 (h ++ L) (dp.add (j * 7)) 7 = some b.days[j].c := fun L => rdn_app (d3 j _ (by simp [hj]))
      have i3 : (j : Int) < b.days.length := by omega
      simp only [go_sem, i1, i2, i3, d1, ↓reduceIte, Nat.reduceEqDiff, Nat.reduceAdd, Nat.reduceSub, Nat.reduceMul, Nat.reduceLT, Nat.reduceLeDiff, Int.reduceLE, Int.reduceLT, Int.reduceAdd, Int.reduceSub, Int.reduceMul, Int.reduceEq, Int.reduceBEq, Int.reduceBNe, Int.reduceNeg, Int.reduceToNat, reduceCtorEq]
      refine rvC_use (rday_c b.days[j]).v ?_
      simp only [go_sem, ↓reduceIte, Nat.reduceEqDiff, Nat.reduceAdd, Nat.reduceSub, Nat.reduceMul, Nat.reduceLT, Nat.reduceLeDiff, Int.reduceLE, Int.reduceLT, Int.reduceAdd, Int.reduceSub, Int.reduceMul, Int.reduceEq, Int.reduceBEq, Int.reduceBNe, Int.reduceNeg, Int.reduceToNat, reduceCtorEq]
      refine ⟨fun e => ?_, fun e => ⟨(by unfold I64; omega), ih fun _ => e⟩⟩
      have : b.days.all dayB = false := List.all_eq_false.2 ⟨_, List.getElem_mem hj, by simp [e]⟩
      simp [bayB, this]
    refine lp_step hmix L22_2_g [1, 5] L22_2.eq_1 ?_
    have x3 : ¬ (b.days.length : Int) < b.days.length := by omega
    simp only [go_sem, x3, d1, f1, ↓reduceIte, Nat.reduceEqDiff, Nat.reduceAdd, Nat.reduceSub, Nat.reduceMul, Nat.reduceLT, Nat.reduceLeDiff, Int.reduceLE, Int.reduceLT, Int.reduceAdd, Int.reduceSub, Int.reduceMul, Int.reduceEq, Int.reduceBEq, Int.reduceBNe, Int.reduceNeg, Int.reduceToNat, reduceCtorEq]
    have ed : b.days.all dayB = true := List.all_eq_true.2 fun x hx => by
      obtain ⟨i, hi, rfl⟩ := List.getElem_of_mem hx
      exact ed i hi hi
    refine lp_all (fun j => [(1, .ptr (.own h.length 0)), (6, .int .i64 j)]) (fun j => ∀ hj : j < b.defs.length, defB b b.defs[j] = true) b.defs.length rfl (fun j hj hi ih => ?_) (fun ef => ?_)
    · refine lp_step hmix L22_3_g [1, 6] L22_3.eq_1 ?_
      have i1 := f2 j hj
      have i2 : ∀ L, rdn w0 (h ++ L) (fp.add (j * 3)) 3 = some b.defs[j].c := fun L => rdn_app (f3 j _ (by simp [hj]))
      have i4 : ∀ L, rd w0 (h ++ L) ((fp.add (j * 3)).add 0) = some (.int .i64 b.defs[j].slot) := fun L => rd_get (i2 L) rfl
      have i5 : ∀ L, rdn w0 (h ++ L) ((fp.add (j * 3)).add 1) 2 = some (Span.c b.defs[j].nights) := fun L => (rdn_get (i2 L)).2 1 2 (by omega)
      have i3 : (j : Int) < b.defs.length := by omega
      simp only [go_sem, i1, i4, i5, i3, d1, s1, f1, ↓reduceIte, Nat.reduceEqDiff, Nat.reduceAdd, Nat.reduceSub, Nat.reduceMul, Nat.reduceLT, Nat.reduceLeDiff, Int.reduceLE, Int.reduceLT, Int.reduceAdd, Int.reduceSub, Int.reduceMul, Int.reduceEq, Int.reduceBEq, Int.reduceBNe, Int.reduceNeg, Int.reduceToNat, reduceCtorEq]
      refine ⟨(by unfold I64; omega), ?_⟩
      refine rdC_q (rin_c _ _ _).v ?_
      simp only [go_sem, i1, i4, i5, s1, d1, ↓reduceIte, Nat.reduceEqDiff, Nat.reduceAdd, Nat.reduceSub, Nat.reduceMul, Nat.reduceLT, Nat.reduceLeDiff, Int.reduceLE, Int.reduceLT, Int.reduceAdd, Int.reduceSub, Int.reduceMul, Int.reduceEq, Int.reduceBEq, Int.reduceBNe, Int.reduceNeg, Int.reduceToNat, reduceCtorEq]
      have no : defB b b.defs[j] = false → bayB b = false := fun e => by
        have : b.defs.all (defB b) = false := List.all_eq_false.2 ⟨_, List.getElem_mem hj, by simp [e]⟩
        simp [bayB, this]
      refine ⟨fun e => ⟨(by unfold I64; omega), ?_⟩, fun e => by rw [no (by simp [defB, e])]⟩
      refine rdC_q (rspan_c b.defs[j].nights _).v ?_
      simp only [go_sem, ↓reduceIte, Nat.reduceEqDiff, Nat.reduceAdd, Nat.reduceSub, Nat.reduceMul, Nat.reduceLT, Nat.reduceLeDiff, Int.reduceLE, Int.reduceLT, Int.reduceAdd, Int.reduceSub, Int.reduceMul, Int.reduceEq, Int.reduceBEq, Int.reduceBNe, Int.reduceNeg, Int.reduceToNat, reduceCtorEq]
      refine ⟨fun e' => by rw [no (by simp [defB, e'])], fun e' => ⟨(by unfold I64; omega), ih fun _ => by simp [defB, e, e']⟩⟩
    refine lp_step hmix L22_3_g [1, 6] L22_3.eq_1 ?_
    have x4 : ¬ (b.defs.length : Int) < b.defs.length := by omega
    simp only [go_sem, x4, f1, ↓reduceIte, Nat.reduceEqDiff, Nat.reduceAdd, Nat.reduceSub, Nat.reduceMul, Nat.reduceLT, Nat.reduceLeDiff, Int.reduceLE, Int.reduceLT, Int.reduceAdd, Int.reduceSub, Int.reduceMul, Int.reduceEq, Int.reduceBEq, Int.reduceBNe, Int.reduceNeg, Int.reduceToNat, reduceCtorEq]
    have ef : b.defs.all (defB b) = true := List.all_eq_true.2 fun x hx => by
      obtain ⟨i, hi, rfl⟩ := List.getElem_of_mem hx
      exact ef i hi hi
    have e6' : b.defs.length ≤ 8 := by omega
    have e4' : (b.nights.length == b.days.length) = true := by simp; omega
    simp [bayB, e1, e2, e3, e4', e5, e6', ek, es, ed, ef]
  · have : (b.nights.length == b.days.length) = false := by simp; omega
    simp [bayB, this]
end Go.Proofs.Ab

namespace Go.Proofs.Ab
open Go Go.Proofs
variable {w0 : World} {h : Heap}
attribute [local irreducible] ACall ACallV AYield DCall DCallV rvC rdC lp rg dr ex un rv rd'

structure BayS (w0 : World) (h : Heap) (b : BayD) (v : BayV) : Prop where
  kinds : Sl w0 h 8 v.kv (b.kinds.map KindD.c)
  slots : Sl w0 h 7 v.sv (b.slots.map PartD.c)
  days : Sl w0 h 7 v.dv (b.days.map UseD.c)
  nights : Sl w0 h 1 v.nv (b.nights.map fun x => [.bool x])
  defs : Sl w0 h 3 v.fv (b.defs.map DefD.c)
def shortB (b : BayD) : Bool := decide (b.kinds.length ≤ 12) && (decide (b.slots.length ≤ 8) && (decide (b.days.length ≤ 40) && (decide (b.nights.length ≤ 40) && decide (b.defs.length ≤ 12))))
theorem BayS.R {b : BayD} {v : BayV} (s : BayS w0 h b v) (hb : shortB b = true) : BayR w0 h b v := by
  simp only [shortB, Bool.and_eq_true, decide_eq_true_eq] at hb
  exact ⟨s.kinds, s.slots, s.days, s.nights, s.defs, by omega, by omega, by omega, by omega, by omega⟩
theorem BayS.app {b : BayD} {v : BayV} {L : Heap} (s : BayS w0 h b v) : BayS w0 (h ++ L) b v := ⟨s.kinds.app, s.slots.app, s.days.app, s.nights.app, s.defs.app⟩

theorem short_c (b : BayD) (v : BayV) (hR : BayS w0 h b v) : DCall Try.prog w0 19 [.agg (bayC b v)] h (.bool (shortB b)) h := by
  refine DCall_quiet hmix mf19_ok mf19_b mf19_g (Nat.le_of_ble_eq_true rfl) (by simp [AV.bdd, AV.bdds]) fun hb ha => ex_in ?_
  have k1 := hR.kinds.use.1
  have s1 := hR.slots.use.1
  have d1 := hR.days.use.1
  have n1 := hR.nights.use.1
  have f1 := hR.defs.use.1
  simp only [List.length_map] at k1 s1 d1 n1 f1
  have o1 := hR.kinds.one.1
  have o2 := hR.slots.one.1
  have o3 := hR.days.one.1
  have o4 := hR.nights.one.1
  have o5 := hR.defs.one.1
  simp only [go_sem, mf19, o1, o2, o3, o4, o5, k1, s1, d1, n1, f1, ↓reduceIte, Nat.reduceEqDiff, Nat.reduceAdd, Nat.reduceSub, Nat.reduceMul, Nat.reduceLT, Nat.reduceLeDiff, Int.reduceLE, Int.reduceLT, Int.reduceAdd, Int.reduceSub, Int.reduceMul, Int.reduceEq, Int.reduceBEq, Int.reduceBNe, Int.reduceNeg, Int.reduceToNat, reduceCtorEq]
  refine ⟨fun a1 => ⟨fun a2 => ⟨fun a3 => ⟨fun a4 => ?_, fun a4 => ?_⟩, fun a3 => ?_⟩, fun a2 => ?_⟩, fun a1 => ?_⟩
  · have h1 : b.kinds.length ≤ 12 := by omega
    have h2 : b.slots.length ≤ 8 := by omega
    have h3 : b.days.length ≤ 40 := by omega
    have h4 : b.nights.length ≤ 40 := by omega
    have h5 : ((b.defs.length : Int) ≤ 12) = (b.defs.length ≤ 12) := by simp only [eq_iff_iff]; omega
    simp [shortB, h1, h2, h3, h4, h5]
  all_goals simp [shortB]; omega

def smallB (b : BayD) (s d : Int) : Bool := shortB b && (!(bayB b) || (decide ((b.slots.length : Int) ≤ s) && decide ((b.days.length : Int) ≤ d)))
theorem small_c (b : BayD) (v : BayV) (s d : Int) (hR : BayS w0 h b v) : DCall Try.prog w0 31 [.agg (bayC b v), .int .i64 s, .int .i64 d] h (.bool (smallB b s d)) h := by
  refine DCall_quiet hmix mf31_ok mf31_b mf31_g (Nat.le_of_ble_eq_true rfl) (by simp [AV.bdd, AV.bdds]) fun hb ha => ex_in ?_
  have s1 := hR.slots.use.1
  have d1 := hR.days.use.1
  simp only [List.length_map] at s1 d1
  have o1 := hR.kinds.one.1
  have o2 := hR.slots.one.1
  have o3 := hR.days.one.1
  have o4 := hR.nights.one.1
  have o5 := hR.defs.one.1
  simp only [go_sem, mf31, o1, o2, o3, o4, o5, ↓reduceIte, Nat.reduceEqDiff, Nat.reduceAdd, Nat.reduceSub, Nat.reduceMul, Nat.reduceLT, Nat.reduceLeDiff, Int.reduceLE, Int.reduceLT, Int.reduceAdd, Int.reduceSub, Int.reduceMul, Int.reduceEq, Int.reduceBEq, Int.reduceBNe, Int.reduceNeg, Int.reduceToNat, reduceCtorEq]
  refine rvC_use (short_c b v hR.app).v ?_
  simp only [go_sem, ↓reduceIte, Nat.reduceEqDiff, Nat.reduceAdd, Nat.reduceSub, Nat.reduceMul, Nat.reduceLT, Nat.reduceLeDiff, Int.reduceLE, Int.reduceLT, Int.reduceAdd, Int.reduceSub, Int.reduceMul, Int.reduceEq, Int.reduceBEq, Int.reduceBNe, Int.reduceNeg, Int.reduceToNat, reduceCtorEq]
  refine ⟨fun e1 => ?_, fun e1 => by simp [smallB, e1]⟩
  refine rvC_use (rbay_c b v (hR.R e1).app).v ?_
  simp only [go_sem, s1, d1, ↓reduceIte, Nat.reduceEqDiff, Nat.reduceAdd, Nat.reduceSub, Nat.reduceMul, Nat.reduceLT, Nat.reduceLeDiff, Int.reduceLE, Int.reduceLT, Int.reduceAdd, Int.reduceSub, Int.reduceMul, Int.reduceEq, Int.reduceBEq, Int.reduceBNe, Int.reduceNeg, Int.reduceToNat, reduceCtorEq]
  refine ⟨fun e2 => ⟨fun e3 => ?_, fun e3 => ?_⟩, fun e2 => by simp [smallB, e1, e2]⟩
  · simp [smallB, e1, e2, e3]
  · have : ¬ (b.slots.length : Int) ≤ s := by omega
    simp [smallB, e1, e2, this]

def briefB (t : List (List Int)) : Bool := t.all (fun l => decide (l.length ≤ 10)) && decide (t.length ≤ 50)
theorem brief_c (t : List (List Int)) (pv : AV) (hP : LL w0 h pv t) (hl : t.length ≤ 9223372036854775807) : DCall Try.prog w0 20 [pv] h (.bool (briefB t)) h := by
  refine DCall_quiet hmix mf20_ok mf20_b mf20_g (Nat.le_of_ble_eq_true rfl) (by simp [AV.bdd, AV.bdds]) fun hb ha => ex_in ?_
  have lpv := hP.len
  simp only [go_sem, mf20, ↓reduceIte, Nat.reduceEqDiff, Nat.reduceAdd, Nat.reduceSub, Nat.reduceMul, Nat.reduceLT, Nat.reduceLeDiff, Int.reduceLE, Int.reduceLT, Int.reduceAdd, Int.reduceSub, Int.reduceMul, Int.reduceEq, Int.reduceBEq, Int.reduceBNe, Int.reduceNeg, Int.reduceToNat, reduceCtorEq]
  refine lp_all (fun j => [(0, pv), (3, .int .i64 j)]) (fun j => ∀ hj : j < t.length, t[j].length ≤ 10) t.length rfl (fun j hj hi ih => ?_) (fun hall => ?_)
  · refine lp_step hmix L20_0_g [0, 3] L20_0.eq_1 ?_
    obtain ⟨p, x, i1, i2, i3⟩ := hP.list hj
    have i4 := (SlI.use i3).1
    have i5 : (j : Int) < t.length := by omega
    simp only [go_sem, lpv, i5, i1, i2, i4, ↓reduceIte, Nat.reduceEqDiff, Nat.reduceAdd, Nat.reduceSub, Nat.reduceMul, Nat.reduceLT, Nat.reduceLeDiff, Int.reduceLE, Int.reduceLT, Int.reduceAdd, Int.reduceSub, Int.reduceMul, Int.reduceEq, Int.reduceBEq, Int.reduceBNe, Int.reduceNeg, Int.reduceToNat, reduceCtorEq]
    refine ⟨fun e => ?_, fun e => ⟨(by unfold I64; omega), ih fun _ => by omega⟩⟩
    have : t.all (fun l => decide (l.length ≤ 10)) = false := List.all_eq_false.2 ⟨_, List.getElem_mem hj, by simp; omega⟩
    simp [briefB, this]
  · refine lp_step hmix L20_0_g [0, 3] L20_0.eq_1 ?_
    have i5 : ¬ (t.length : Int) < t.length := by omega
    simp only [go_sem, lpv, i5, ↓reduceIte, Nat.reduceEqDiff, Nat.reduceAdd, Nat.reduceSub, Nat.reduceMul, Nat.reduceLT, Nat.reduceLeDiff, Int.reduceLE, Int.reduceLT, Int.reduceAdd, Int.reduceSub, Int.reduceMul, Int.reduceEq, Int.reduceBEq, Int.reduceBNe, Int.reduceNeg, Int.reduceToNat, reduceCtorEq]
    have : t.all (fun l => decide (l.length ≤ 10)) = true := List.all_eq_true.2 fun x hx => by
      obtain ⟨i, hi, rfl⟩ := List.getElem_of_mem hx
      simpa using hall i hi hi
    have h5 : ((t.length : Int) ≤ 50) = (t.length ≤ 50) := by simp only [eq_iff_iff]; omega
    simp [briefB, this, h5]

theorem rplans_c (b : BayD) (v : BayV) (t : List (List Int)) (pv : AV) (hR : BayR w0 h b v) (hP : LL w0 h pv t) (htl : t.length < 1000000) (hll : ∀ l ∈ t, l.length < 1000000) :
    DCall Try.prog w0 23 [.agg (bayC b v), pv] h (.bool (planB b t)) h := by
  refine DCall_quiet hmix mf23_ok mf23_b mf23_g (Nat.le_of_ble_eq_true rfl) (by simp [AV.bdd, AV.bdds]) fun hb ha => ex_in ?_
  have o1 := hR.kinds.one
  have o2 := hR.slots.one
  have o3 := hR.days.one
  have o4 := hR.nights.one
  have o5 := hR.defs.one
  have l1 := hR.slots.use.1
  have l2 := hR.days.use.1
  have l3 := hR.len
  simp only [List.length_map] at l1 l2
  have lpv := hP.len
  simp only [go_sem, mf23, o1.1, o2.1, o3.1, o4.1, o5.1, ↓reduceIte, Nat.reduceEqDiff, Nat.reduceAdd, Nat.reduceSub, Nat.reduceMul, Nat.reduceLT, Nat.reduceLeDiff, Int.reduceLE, Int.reduceLT, Int.reduceAdd, Int.reduceSub, Int.reduceMul, Int.reduceEq, Int.reduceBEq, Int.reduceBNe, Int.reduceNeg, Int.reduceToNat, reduceCtorEq]
  refine lp_all (fun j => [(1, pv), (2, .ptr (.own h.length 0)), (5, .int .i64 j)]) (fun j => ∀ hj : j < t.length, choiceB b t[j] = true) t.length rfl (fun j hj hall ih => ?_) (fun hall => ?_)
  · refine lp_step hmix L23_1_g [1, 2, 5] L23_1.eq_1 ?_
    obtain ⟨p, x, i1, i2, i3⟩ := hP.list hj
    obtain ⟨i4, q, ix, row⟩ := SlI.use i3
    have i5 : (j : Int) < t.length := by omega
    have hlj := hll _ (List.getElem_mem hj)
    simp only [go_sem, lpv, i5, ↓reduceIte, Nat.reduceEqDiff, Nat.reduceAdd, Nat.reduceSub, Nat.reduceMul, Nat.reduceLT, Nat.reduceLeDiff, Int.reduceLE, Int.reduceLT, Int.reduceAdd, Int.reduceSub, Int.reduceMul, Int.reduceEq, Int.reduceBEq, Int.reduceBNe, Int.reduceNeg, Int.reduceToNat, reduceCtorEq]
    obtain ⟨l, el⟩ : ∃ l, l = t[j] := ⟨_, rfl⟩
    rw [← el] at i4 ix row hlj
    have ih : choiceB b l = true → _ := fun e => ih fun _ => el ▸ e
    have hbad : ∀ k, k < l.length → choiceK b l k = false → planB b t = false := fun k hk e => by
      have h1 : choiceB b l = false := by
        simp only [choiceB]
        exact List.all_eq_false.2 ⟨k, List.mem_range.2 hk, by simp [e]⟩
      have h2 : t.all (choiceB b) = false := List.all_eq_false.2 ⟨l, by rw [el]; exact List.getElem_mem hj, by simp [h1]⟩
      simp [planB, h2]
    refine lp_all (fun k => [(1, pv), (2, .ptr (.own h.length 0)), (5, .int .i64 j), (6, .int .i64 k)]) (fun k => ∀ hk : k < l.length, choiceK b l k = true) l.length rfl (fun k hk hall2 ih2 => ?_) (fun hall2 => ?_)
    · refine lp_step hmix L23_0_g [1, 2, 5, 6] L23_0.eq_1 ?_
      have m1 : (k : Int) < l.length := by omega
      have m2 := ix k hk
      have m3 := row k hk
      have gk : l.getD k 0 = l[k] := by rw [List.getD_eq_getElem?_getD, List.getElem?_eq_getElem hk]; rfl
      simp only [go_sem, i1, i2, i4, m1, m2, m3, l1, ↓reduceIte, Nat.reduceEqDiff, Nat.reduceAdd, Nat.reduceSub, Nat.reduceMul, Nat.reduceLT, Nat.reduceLeDiff, Int.reduceLE, Int.reduceLT, Int.reduceAdd, Int.reduceSub, Int.reduceMul, Int.reduceEq, Int.reduceBEq, Int.reduceBNe, Int.reduceNeg, Int.reduceToNat, reduceCtorEq]
      refine ⟨(by unfold I64; omega), ?_⟩
      refine rdC_q (rin_c _ _ _).v ?_
      simp only [go_sem, i1, i2, i4, m2, m3, ↓reduceIte, Nat.reduceEqDiff, Nat.reduceAdd, Nat.reduceSub, Nat.reduceMul, Nat.reduceLT, Nat.reduceLeDiff, Int.reduceLE, Int.reduceLT, Int.reduceAdd, Int.reduceSub, Int.reduceMul, Int.reduceEq, Int.reduceBEq, Int.reduceBNe, Int.reduceNeg, Int.reduceToNat, reduceCtorEq]
      refine ⟨fun g1 => ?_, fun g1 => by rw [hbad k hk (by simp only [choiceK, gk, g1, Bool.false_and])]⟩
      refine ⟨fun g2 => ⟨(by unfold I64; omega), ?_⟩, fun g2 => ⟨(by unfold I64; omega), ih2 fun _ => by simp only [choiceK, gk, g1, show ¬ 0 < k by omega, decide_false, Bool.false_and, Bool.not_false, Bool.and_self]⟩⟩
      have m4 := ix (k - 1) (by omega)
      have m5 := row (k - 1) (by omega)
      have i5 : (if (0 : Int) ≤ (k : Int) - 1 then some ((k : Int) - 1).toNat else none) = some (k - 1) := by
        rw [if_pos (by omega)]; congr 1; omega
      have gk2 : l.getD (k - 1) 0 = l[k - 1] := by rw [List.getD_eq_getElem?_getD, List.getElem?_eq_getElem (by omega)]; rfl
      simp only [go_sem, i5, m4, m5, ↓reduceIte, Nat.reduceEqDiff, Nat.reduceAdd, Nat.reduceSub, Nat.reduceMul, Nat.reduceLT, Nat.reduceLeDiff, Int.reduceLE, Int.reduceLT, Int.reduceAdd, Int.reduceSub, Int.reduceMul, Int.reduceEq, Int.reduceBEq, Int.reduceBNe, Int.reduceNeg, Int.reduceToNat, reduceCtorEq]
      refine ⟨fun g3 => by rw [hbad k hk (by simp only [choiceK, gk, gk2, g1, g3, show 0 < k by omega, decide_true, Bool.and_self, Bool.not_true, Bool.and_false])], fun g3 => ⟨(by unfold I64; omega), ih2 fun _ => ?_⟩⟩
      simp only [choiceK, gk, gk2, g1, g3, decide_false, Bool.and_false, Bool.not_false, Bool.and_self]
    · refine lp_step hmix L23_0_g [1, 2, 5, 6] L23_0.eq_1 ?_
      have m1 : ¬ (l.length : Int) < l.length := by omega
      simp only [go_sem, i1, i2, i4, m1, ↓reduceIte, Nat.reduceEqDiff, Nat.reduceAdd, Nat.reduceSub, Nat.reduceMul, Nat.reduceLT, Nat.reduceLeDiff, Int.reduceLE, Int.reduceLT, Int.reduceAdd, Int.reduceSub, Int.reduceMul, Int.reduceEq, Int.reduceBEq, Int.reduceBNe, Int.reduceNeg, Int.reduceToNat, reduceCtorEq]
      refine ⟨(by unfold I64; omega), ih ?_⟩
      rw [choiceB, List.all_eq_true]
      exact fun k hk => hall2 k (List.mem_range.1 hk) (List.mem_range.1 hk)
  · refine lp_step hmix L23_1_g [1, 2, 5] L23_1.eq_1 ?_
    have i5 : ¬ (t.length : Int) < t.length := by omega
    simp only [go_sem, lpv, i5, l2, ↓reduceIte, Nat.reduceEqDiff, Nat.reduceAdd, Nat.reduceSub, Nat.reduceMul, Nat.reduceLT, Nat.reduceLeDiff, Int.reduceLE, Int.reduceLT, Int.reduceAdd, Int.reduceSub, Int.reduceMul, Int.reduceEq, Int.reduceBEq, Int.reduceBNe, Int.reduceNeg, Int.reduceToNat, reduceCtorEq]
    have : t.all (choiceB b) = true := List.all_eq_true.2 fun x hx => by
      obtain ⟨i, hi, rfl⟩ := List.getElem_of_mem hx
      exact hall i hi hi
    have e5 : ((t.length : Int) == b.days.length) = (t.length == b.days.length) := by
      rw [ieq]
      by_cases e : t.length = b.days.length
      · simp [e]
      · have : ¬ (t.length : Int) = b.days.length := by omega
        simp [e, this]
    simp [planB, this, e5]
end Go.Proofs.Ab

namespace Go.Proofs.Ab
open Go Go.Proofs
variable {w0 : World} {h : Heap}
attribute [local irreducible] ACall ACallV AYield DCall DCallV rvC rdC lp rg dr ex un rv rd'

def changedD (t : List (List Int)) (x lo hi : Int) : Bool := ((t.drop lo.toNat).take (hi + 1 - lo).toNat).any fun l => l.any fun y => y == x

theorem changed_c (t : List (List Int)) (pv : AV) (x : Int) (sp : Span) (hP : LL w0 h pv t) (hll : ∀ l ∈ t, l.length < 1000000) (htl : t.length < 1000000) (h0 : 0 ≤ sp.low) (h1 : sp.high < t.length) :
    DCall Try.prog w0 71 [pv, .int .i64 x, .agg sp.c] h (.bool (changedD t x sp.low sp.high)) h := by
  refine DCall_quiet hmix mf71_ok mf71_b mf71_g (Nat.le_of_ble_eq_true rfl) (by simp [AV.bdd, AV.bdds]) fun hb ha => ex_in ?_
  obtain ⟨lo, hi⟩ := sp
  simp only at h0 h1
  obtain ⟨a, rfl⟩ : ∃ a : Nat, lo = a := ⟨lo.toNat, by omega⟩
  obtain ⟨us, eus⟩ : ∃ us, us = (t.drop a).take (hi + 1 - a).toNat := ⟨_, rfl⟩
  have hul : us.length = (hi + 1 - a).toNat := by rw [eus, List.length_take, List.length_drop]; omega
  have hcd : changedD t x (a : Int) hi = us.any fun l => l.any fun y => y == x := by rw [changedD, eus]; rfl
  have hua : ∀ (j : Nat) (hj : j < us.length), ∃ hj' : a + j < t.length, us[j] = t[a + j] := fun j hj => by
    have : a + j < t.length := by omega
    exact ⟨this, by simp [eus]⟩
  simp only [go_sem, mf71, ↓reduceIte, Nat.reduceEqDiff, Nat.reduceAdd, Nat.reduceSub, Nat.reduceMul, Nat.reduceLT, Nat.reduceLeDiff, Int.reduceLE, Int.reduceLT, Int.reduceAdd, Int.reduceSub, Int.reduceMul, Int.reduceEq, Int.reduceBEq, Int.reduceBNe, Int.reduceNeg, Int.reduceToNat, reduceCtorEq]
  refine lp_all (fun j => [(0, pv), (1, .int .i64 x), (5, .ptr (.own h.length 0)), (7, .int .i64 ((a + j : Nat) : Int))]) (fun j => ∀ hj : j < us.length, (us[j].any fun y => y == x) = false) us.length rfl (fun j hj hall ih => ?_) (fun hall => ?_)
  · refine lp_step hmix L71_1_g [0, 1, 5, 7] L71_1.eq_1 ?_
    have m1 : ((a + j : Nat) : Int) ≤ hi := by omega
    obtain ⟨hj', e⟩ := hua j hj
    obtain ⟨p, y, i1, i2, i3⟩ := hP.list hj'
    rw [← e] at i3
    obtain ⟨i4, q, ix, row⟩ := SlI.use i3
    have hlj : us[j].length < 1000000 := by rw [e]; exact hll _ (List.getElem_mem _)
    have hall2 : (us[j].any fun y => y == x) = true → changedD t x (a : Int) hi = true := fun e => by
      rw [hcd]; exact List.any_eq_true.2 ⟨_, List.getElem_mem hj, e⟩
    have ih : (us[j].any fun y => y == x) = false → _ := fun e => ih fun _ => e
    generalize us[j] = l at i4 ix row hlj hall2 ih
    simp only [go_sem, m1, ↓reduceIte, Nat.reduceEqDiff, Nat.reduceAdd, Nat.reduceSub, Nat.reduceMul, Nat.reduceLT, Nat.reduceLeDiff, Int.reduceLE, Int.reduceLT, Int.reduceAdd, Int.reduceSub, Int.reduceMul, Int.reduceEq, Int.reduceBEq, Int.reduceBNe, Int.reduceNeg, Int.reduceToNat, reduceCtorEq]
    refine lp_all (fun k => [(0, pv), (1, .int .i64 x), (5, .ptr (.own h.length 0)), (7, .int .i64 ((a + j : Nat) : Int)), (8, .int .i64 k)]) (fun k => ∀ hk : k < l.length, ¬ l[k] = x) l.length rfl (fun k hk hk2 ih2 => ?_) (fun hk2 => ?_)
    · refine lp_step hmix L71_0_g [0, 1, 5, 7, 8] L71_0.eq_1 ?_
      have m2 : (k : Int) < l.length := by omega
      have m3 := ix k hk
      have m4 := row k hk
      simp only [go_sem, i1, i2, i4, m2, m3, m4, ↓reduceIte, Nat.reduceEqDiff, Nat.reduceAdd, Nat.reduceSub, Nat.reduceMul, Nat.reduceLT, Nat.reduceLeDiff, Int.reduceLE, Int.reduceLT, Int.reduceAdd, Int.reduceSub, Int.reduceMul, Int.reduceEq, Int.reduceBEq, Int.reduceBNe, Int.reduceNeg, Int.reduceToNat, reduceCtorEq]
      refine ⟨fun e => ?_, fun e => ⟨(by unfold I64; omega), ih2 fun _ => e⟩⟩
      rw [hall2 (List.any_eq_true.2 ⟨_, List.getElem_mem hk, by simpa using e⟩)]
    · refine lp_step hmix L71_0_g [0, 1, 5, 7, 8] L71_0.eq_1 ?_
      have m2 : ¬ (l.length : Int) < l.length := by omega
      simp only [go_sem, i1, i2, i4, m2, ↓reduceIte, Nat.reduceEqDiff, Nat.reduceAdd, Nat.reduceSub, Nat.reduceMul, Nat.reduceLT, Nat.reduceLeDiff, Int.reduceLE, Int.reduceLT, Int.reduceAdd, Int.reduceSub, Int.reduceMul, Int.reduceEq, Int.reduceBEq, Int.reduceBNe, Int.reduceNeg, Int.reduceToNat, reduceCtorEq]
      refine ⟨(by unfold I64; omega), ?_⟩
      have := ih (List.any_eq_false.2 fun y hy => by
        obtain ⟨i, hi, rfl⟩ := List.getElem_of_mem hy
        simp [hk2 i hi hi])
      simpa [← Int.add_assoc, Span.c] using this
  · refine lp_step hmix L71_1_g [0, 1, 5, 7] L71_1.eq_1 ?_
    have m1 : ¬ ((a + us.length : Nat) : Int) ≤ hi := by omega
    simp only [go_sem, m1, ↓reduceIte, Nat.reduceEqDiff, Nat.reduceAdd, Nat.reduceSub, Nat.reduceMul, Nat.reduceLT, Nat.reduceLeDiff, Int.reduceLE, Int.reduceLT, Int.reduceAdd, Int.reduceSub, Int.reduceMul, Int.reduceEq, Int.reduceBEq, Int.reduceBNe, Int.reduceNeg, Int.reduceToNat, reduceCtorEq]
    have : (us.any fun l => l.any fun y => y == x) = false := List.any_eq_false.2 fun l hl => by
      obtain ⟨i, hi, rfl⟩ := List.getElem_of_mem hl
      rw [hall i hi hi]; simp
    rw [hcd, this]

def overR (b : BayD) (n : Nat) (p : List Int) : Int := idxOf (fun s => !(withinB Span.high (kindOf b s) (afterD b s (p.getD s 0) n))) (List.range b.slots.length)
def defR (b : BayD) (t : List (List Int)) (n : Nat) : Int := idxOf (fun d => (d.nights.high == (n : Int)) && !(changedD t d.slot d.nights.low d.nights.high)) b.defs
def faultR (b : BayD) (t : List (List Int)) (n : Nat) (p : List Int) : Option (Int × Int) :=
  if 0 ≤ overR b n p then some (2, overR b n p)
  else if (decide (0 < (t.getD n []).length) && !(b.nights.getD n false)) = true then some (3, 0)
  else if b.most < (t.getD n []).length then some (4, 0)
  else if 0 ≤ defR b t n then some (5, defR b t n)
  else none
def rightR (b : BayD) (t : List (List Int)) : Nat → Nat → List Int → Int × Int × Int
  | 0, _, _ => (0, 1, 0)
  | k + 1, n, p => match faultR b t n p with
    | some (r, o) => (n, r, o)
    | none => rightR b t k (n + 1) (putD n p ((t.getD n []).map Int.toNat))

theorem branch2 {p r : Prop} {c : Bool} {A B L : Prop} (h1 : p → c = false → A) (h2 : ¬ (p ∧ c = false) → r → B) (h3 : ¬ (p ∧ c = false) → ¬ r → L) :
    (p → (c = false → A) ∧ (c = true → (r → B) ∧ (¬ r → L))) ∧ (¬ p → (r → B) ∧ (¬ r → L)) :=
  ⟨fun a => ⟨h1 a, fun e => ⟨h2 (fun x => by have := x.2; simp [e] at this), h3 (fun x => by have := x.2; simp [e] at this)⟩⟩, fun a => ⟨h2 (fun x => a x.1), h3 (fun x => a x.1)⟩⟩

theorem rright_c (b : BayD) (v : BayV) (t : List (List Int)) (pv : AV) (hR : BayR w0 h b v) (hB : bayB b = true) (hP : LL w0 h pv t) (hT : planB b t = true) (hll : ∀ l ∈ t, l.length < 1000000) :
    DCall Try.prog w0 24 [.agg (bayC b v), pv] h (.agg [.int .i64 (rightR b t b.days.length 0 (List.replicate b.slots.length (-1))).1, .int .i64 (rightR b t b.days.length 0 (List.replicate b.slots.length (-1))).2.1, .int .i64 (rightR b t b.days.length 0 (List.replicate b.slots.length (-1))).2.2]) h := by
  refine DCall_quiet hmix mf24_ok mf24_b mf24_g (Nat.le_of_ble_eq_true rfl) (by simp [AV.bdd, AV.bdds]) fun hb ha => ex_in ?_
  have o1 := hR.kinds.one
  have o2 := hR.slots.one
  have o3 := hR.days.one
  have o4 := hR.nights.one
  have o5 := hR.defs.one
  have l1 := hR.slots.use.1
  have l2 := hR.days.use.1
  obtain ⟨l4, nq, nx, nrow, _⟩ := hR.nights.use
  obtain ⟨l3, dp, d2, d3, d4⟩ := hR.defs.use
  simp only [List.length_map] at l1 l2 l3 l4 d2 nx
  have bs := bayB_spec hB
  have hm1 : b.slots.length * 9 ≤ 1099511627776 := by omega
  simp only [go_sem, mf24, o1.1, o2.1, o3.1, o4.1, o5.1, l1, reps_1, ↓reduceIte, Nat.reduceEqDiff, Nat.reduceAdd, Nat.reduceSub, Nat.reduceMul, Nat.reduceLT, Nat.reduceLeDiff, Int.reduceLE, Int.reduceLT, Int.reduceAdd, Int.reduceSub, Int.reduceMul, Int.reduceEq, Int.reduceBEq, Int.reduceBNe, Int.reduceNeg, Int.reduceToNat, reduceCtorEq]
  obtain ⟨N, eN⟩ : ∃ N, N = b.slots.length := ⟨_, rfl⟩
  have hz : List.replicate N (AV.int .i64 0) = ints (List.replicate N 0) := by simp [ints]
  rw [← eN] at l1 ⊢
  rw [hz]
  refine ⟨by omega, ?_⟩
  obtain ⟨fl, efl⟩ : ∃ fl, fl = (N == N) := ⟨_, rfl⟩
  rw [← efl]
  refine lp_for (S := Unit) (fun j _ => [(1, pv), (2, .ptr (.own h.length 0)), (4, .ptr (.own (h.length + 1) 0)), (5, .sl (.own (h.length + 2) 0) N 1 fl), (6, .int .i64 j)])
    (fun j _ => h ++ [some (.row (bayC b v)), some (.row [.int .i64 0, .int .i64 0, .int .i64 0]), some (.row (ints (List.replicate j (-1) ++ List.replicate (N - j) 0)))]) (fun _ _ => True) N () trivial rfl (by simp [bayC]) (fun j _ hj _ ih => ?_) (fun _ _ => ?_)
  · refine lp_step hmix L24_0_g [1, 2, 4, 5, 6] L24_0.eq_1 ?_
    have m1 : (j : Int) < N := by omega
    obtain ⟨q, eq⟩ : ∃ q : List Int, q = List.replicate j (-1) ++ List.replicate (N - j) 0 := ⟨_, rfl⟩
    have hq : q.length = N := by rw [eq]; simp; omega
    have hq2 : q.set j (-1) = List.replicate (j + 1) (-1) ++ List.replicate (N - (j + 1)) 0 := by
      rw [eq, List.set_append_right _ _ (by simp)]
      obtain ⟨k, hk⟩ : ∃ k, N - j = k + 1 := ⟨N - j - 1, by omega⟩
      rw [hk, show N - (j + 1) = k by omega, List.length_replicate, Nat.sub_self, List.replicate_succ, List.set_cons_zero, List.replicate_succ', List.append_assoc]; rfl
    have ih := ih () trivial
    rw [← hq2] at ih
    rw [← eq]
    simp only [go_sem, m1, Nat.mul_one, ints_len, ↓reduceIte, Nat.reduceEqDiff, Nat.reduceAdd, Nat.reduceSub, Nat.reduceMul, Nat.reduceLT, Nat.reduceLeDiff, Int.reduceLE, Int.reduceLT, Int.reduceAdd, Int.reduceSub, Int.reduceMul, Int.reduceEq, Int.reduceBEq, Int.reduceBNe, Int.reduceNeg, Int.reduceToNat, reduceCtorEq]
    have hs : (ints q).take j ++ .int .i64 (-1) :: (ints q).drop (j + 1) = ints (q.set j (-1)) := by
      rw [splice_r (by rw [ints_len]; omega), ints_set]
    rw [hs]
    exact ⟨hj, by omega, (by unfold I64; omega), by simpa [bayC] using ih⟩
  · refine lp_step hmix L24_0_g [1, 2, 4, 5, 6] L24_0.eq_1 ?_
    have m1 : ¬ (N : Int) < N := by omega
    rw [Nat.sub_self, List.replicate_zero, List.append_nil]
    simp only [go_sem, m1, ↓reduceIte, Nat.reduceEqDiff, Nat.reduceAdd, Nat.reduceSub, Nat.reduceMul, Nat.reduceLT, Nat.reduceLeDiff, Int.reduceLE, Int.reduceLT, Int.reduceAdd, Int.reduceSub, Int.reduceMul, Int.reduceEq, Int.reduceBEq, Int.reduceBNe, Int.reduceNeg, Int.reduceToNat, reduceCtorEq]
    obtain ⟨R, eR⟩ : ∃ R, R = rightR b t b.days.length 0 (List.replicate N (-1)) := ⟨_, rfl⟩
    rw [← eR]
    have htl : t.length = b.days.length := by
      simp only [planB, Bool.and_eq_true, beq_iff_eq] at hT; exact hT.1
    have htc : ∀ l ∈ t, choiceB b l = true := by
      simp only [planB, Bool.and_eq_true, List.all_eq_true] at hT; exact hT.2
    refine lp_ind (S := Nat × List Int) (F := fun s => [(1, pv), (2, .ptr (.own h.length 0)), (4, .ptr (.own (h.length + 1) 0)), (5, .sl (.own (h.length + 2) 0) N 1 fl), (7, .int .i64 s.1)])
      (H := fun s => h ++ [some (.row (bayC b v)), some (.row [.int .i64 0, .int .i64 0, .int .i64 0]), some (.row (ints s.2))]) (meas := fun s => b.days.length - s.1)
      (Inv := fun s => s.1 ≤ b.days.length ∧ s.2.length = N ∧ (∀ x ∈ s.2, -1 ≤ x ∧ x < (s.1 : Int)) ∧ rightR b t (b.days.length - s.1) s.1 s.2 = R) (0, List.replicate N (-1)) ⟨Nat.zero_le _, by simp, by simp, eR.symm⟩ rfl (by simp [bayC]) ?_
    rintro ⟨n, p⟩ ⟨hn, hp, hpb, hr⟩ ih
    simp only at hn hp hpb hr ih
    refine lp_step hmix L24_4_g [1, 2, 4, 5, 7] L24_4.eq_1 ?_
    by_cases hnn : n < b.days.length
    · have m1 : (n : Int) < b.days.length := by omega
      obtain ⟨k0, hk0⟩ : ∃ k0, b.days.length - n = k0 + 1 := ⟨b.days.length - n - 1, by omega⟩
      have hk0' : b.days.length - (n + 1) = k0 := by omega
      rw [hk0] at hr
      have hnt : n < t.length := by omega
      obtain ⟨pp, xx, i1, i2, i3⟩ := hP.list hnt
      obtain ⟨i4, q, ix, row⟩ := SlI.use i3
      have gt : t.getD n [] = t[n] := by rw [List.getD_eq_getElem?_getD, List.getElem?_eq_getElem hnt]; rfl
      have hnl : n < b.nights.length := by omega
      have gn : b.nights.getD n false = b.nights[n] := by rw [List.getD_eq_getElem?_getD, List.getElem?_eq_getElem hnl]; rfl
      have hcl := hll _ (List.getElem_mem hnt)
      have hct := choiceB_nat (htc _ (List.getElem_mem hnt))
      simp only [go_sem, m1, l2, htl, ↓reduceIte, Nat.reduceEqDiff, Nat.reduceAdd, Nat.reduceSub, Nat.reduceMul, Nat.reduceLT, Nat.reduceLeDiff, Int.reduceLE, Int.reduceLT, Int.reduceAdd, Int.reduceSub, Int.reduceMul, Int.reduceEq, Int.reduceBEq, Int.reduceBNe, Int.reduceNeg, Int.reduceToNat, reduceCtorEq]
      refine lp_all (fun j => [(1, pv), (2, .ptr (.own h.length 0)), (4, .ptr (.own (h.length + 1) 0)), (5, .sl (.own (h.length + 2) 0) N 1 fl), (7, .int .i64 n), (8, .int .i64 j)]) (fun j => withinB Span.high (kindOf b j) (afterD b j (p.getD j 0) n) = true) N rfl (fun j hj hall ih2 => ?_) (fun hall => ?_)
      · refine lp_step hmix L24_1_g [1, 2, 4, 5, 7, 8] L24_1.eq_1 ?_
        have m2 : (j : Int) < N := by omega
        have hjp : j < p.length := by omega
        have gp : p.getD j 0 = p[j] := by rw [List.getD_eq_getElem?_getD, List.getElem?_eq_getElem hjp]; rfl
        have hpj := hpb _ (List.getElem_mem hjp)
        simp only [go_sem, m2, Nat.mul_one, ints_len, ↓reduceIte, Nat.reduceEqDiff, Nat.reduceAdd, Nat.reduceSub, Nat.reduceMul, Nat.reduceLT, Nat.reduceLeDiff, Int.reduceLE, Int.reduceLT, Int.reduceAdd, Int.reduceSub, Int.reduceMul, Int.reduceEq, Int.reduceBEq, Int.reduceBNe, Int.reduceNeg, Int.reduceToNat, reduceCtorEq]
        refine rdC_q (rkindOf_c b v j hR.app hB (by omega)).v ?_
        simp only [go_sem, Nat.mul_one, ints_len, ints_get, List.getElem?_eq_getElem hjp, Option.map_some, ↓reduceIte, Nat.reduceEqDiff, Nat.reduceAdd, Nat.reduceSub, Nat.reduceMul, Nat.reduceLT, Nat.reduceLeDiff, Int.reduceLE, Int.reduceLT, Int.reduceAdd, Int.reduceSub, Int.reduceMul, Int.reduceEq, Int.reduceBEq, Int.reduceBNe, Int.reduceNeg, Int.reduceToNat, reduceCtorEq]
        refine ⟨hj, ?_⟩
        refine rdC_q (rafter_c b v j p[j] n hR.app hB (by omega) (by omega) (by omega) (by omega)).v ?_
        simp only [go_sem, ↓reduceIte, Nat.reduceEqDiff, Nat.reduceAdd, Nat.reduceSub, Nat.reduceMul, Nat.reduceLT, Nat.reduceLeDiff, Int.reduceLE, Int.reduceLT, Int.reduceAdd, Int.reduceSub, Int.reduceMul, Int.reduceEq, Int.reduceBEq, Int.reduceBNe, Int.reduceNeg, Int.reduceToNat, reduceCtorEq]
        refine rdC_q (rsure_c _ _).v ?_
        simp only [go_sem, ↓reduceIte, Nat.reduceEqDiff, Nat.reduceAdd, Nat.reduceSub, Nat.reduceMul, Nat.reduceLT, Nat.reduceLeDiff, Int.reduceLE, Int.reduceLT, Int.reduceAdd, Int.reduceSub, Int.reduceMul, Int.reduceEq, Int.reduceBEq, Int.reduceBNe, Int.reduceNeg, Int.reduceToNat, reduceCtorEq]
        refine ⟨fun e => ?_, fun e => ⟨(by unfold I64; omega), by simpa [bayC] using ih2 (by rw [gp]; exact e)⟩⟩
        rw [← hr]
        have ho : overR b n p = j := by
          rw [overR, idxOf_at (j := j) (by simp; omega) (fun i hi hi2 => by simp only [List.getElem_range, hall i hi, Bool.not_true]) (by simp only [List.getElem_range, gp, e, Bool.not_false])]
        simp [rightR, faultR, ho]
      · refine lp_step hmix L24_1_g [1, 2, 4, 5, 7, 8] L24_1.eq_1 ?_
        have m2 : ¬ (N : Int) < N := by omega
        have ho : overR b n p = -1 := idxOf_none fun i hi => by
          simp only [List.length_range] at hi
          simp only [List.getElem_range, hall i (by omega), Bool.not_true]
        have nx2 := nx n hnl
        have nr2 : ∀ L, rd w0 (h ++ L) (nq.add (n * 1)) = some (.bool b.nights[n]) := fun L => by
          have := rd_get (rdn_app (l := L) (nrow n [.bool b.nights[n]] (by simp [hnl]))) (o := 0) (x := .bool b.nights[n]) rfl
          rwa [show (nq.add (n * 1)).add 0 = nq.add (n * 1) by rw [Pl.add_add]; rfl] at this
        simp only [go_sem, m2, i1, i2, i4, nx2, nr2, ↓reduceIte, Nat.reduceEqDiff, Nat.reduceAdd, Nat.reduceSub, Nat.reduceMul, Nat.reduceLT, Nat.reduceLeDiff, Int.reduceLE, Int.reduceLT, Int.reduceAdd, Int.reduceSub, Int.reduceMul, Int.reduceEq, Int.reduceBEq, Int.reduceBNe, Int.reduceNeg, Int.reduceToNat, reduceCtorEq]
        have hfin : ∀ r o : Int, faultR b t n p = some (r, o) → R = ((n : Int), r, o) := fun r o e => by rw [← hr]; simp [rightR, e]
        have hno : ¬ (0 : Int) ≤ overR b n p := by omega
        refine branch2 (fun e1 e2 => ?_) (fun e1 e2 => ?_) (fun e1 e2 => ?_)
        · rw [hfin 3 0 (by
            have h2 : 0 < t[n].length := by omega
            simp only [faultR, gt, gn]
            rw [if_neg hno, if_pos (by simp [h2, e2])])]
        · have hs : (decide (0 < t[n].length) && !(b.nights[n])) = false := by
            cases hb2 : b.nights[n]
            · have : ¬ 0 < t[n].length := fun x => e1 ⟨by omega, hb2⟩
              simp [this]
            · simp
          rw [hfin 4 0 (by
            simp only [faultR, gt, gn]
            rw [if_neg hno, hs, if_neg (by simp), if_pos e2])]
        · have hs : (decide (0 < t[n].length) && !(b.nights[n])) = false := by
            cases hb2 : b.nights[n]
            · have : ¬ 0 < t[n].length := fun x => e1 ⟨by omega, hb2⟩
              simp [this]
            · simp
          have hf4 : faultR b t n p = if 0 ≤ defR b t n then some (5, defR b t n) else none := by
            simp only [faultR, gt, gn]
            rw [if_neg hno, hs, if_neg (by simp), if_neg e2]
          refine lp_all (fun j => [(1, pv), (2, .ptr (.own h.length 0)), (4, .ptr (.own (h.length + 1) 0)), (5, .sl (.own (h.length + 2) 0) N 1 fl), (7, .int .i64 n), (9, .int .i64 j)])
            (fun j => ∀ hj : j < b.defs.length, ((b.defs[j].nights.high == (n : Int)) && !(changedD t b.defs[j].slot b.defs[j].nights.low b.defs[j].nights.high)) = false) b.defs.length rfl (fun j hj hall3 ih3 => ?_) (fun hall3 => ?_)
          · refine lp_step hmix L24_2_g [1, 2, 4, 5, 7, 9] L24_2.eq_1 ?_
            have m3 : (j : Int) < b.defs.length := by omega
            have q1 := d2 j hj
            have q2 : ∀ L, rdn w0 (h ++ L) (dp.add (j * 3)) 3 = some b.defs[j].c := fun L => rdn_app (d3 j _ (by simp [hj]))
            have q3 := bs.2.2.2.2.2.2.2.2.2.2.2.2.2 b.defs[j] (List.getElem_mem hj)
            simp only [defB, spanB, inB, Bool.and_eq_true, decide_eq_true_eq] at q3
            have hyes : ((b.defs[j].nights.high == (n : Int)) && !(changedD t b.defs[j].slot b.defs[j].nights.low b.defs[j].nights.high)) = true → R = ((n : Int), 5, (j : Int)) := fun e => by
              have hd : defR b t n = j := idxOf_at hj (fun i hi hi2 => hall3 i hi hi2) e
              exact hfin 5 j (by rw [hf4, hd]; simp)
            have ih3 : ((b.defs[j].nights.high == (n : Int)) && !(changedD t b.defs[j].slot b.defs[j].nights.low b.defs[j].nights.high)) = false → _ := fun e => ih3 fun _ => e
            obtain ⟨d, ed⟩ : ∃ d, d = b.defs[j] := ⟨_, rfl⟩
            rw [← ed] at q2 q3 hyes ih3
            simp only [go_sem, m3, l3, q1, q2, ↓reduceIte, Nat.reduceEqDiff, Nat.reduceAdd, Nat.reduceSub, Nat.reduceMul, Nat.reduceLT, Nat.reduceLeDiff, Int.reduceLE, Int.reduceLT, Int.reduceAdd, Int.reduceSub, Int.reduceMul, Int.reduceEq, Int.reduceBEq, Int.reduceBNe, Int.reduceNeg, Int.reduceToNat, reduceCtorEq]
            refine ⟨fun e1 => ?_, fun e1 => ⟨(by unfold I64; omega), lp_drop 3 hb (by simp [HBs_some, HBs_none, HBs_nil, FB_cons, FB_nil, row_bdd, AV.bdds, AV.bdd, Pl.bdd, loop_bddT, hR.kinds.bdd, hR.slots.bdd, hR.days.bdd, hR.nights.bdd, hR.defs.bdd]) (by simp [HBs_some, HBs_none, HBs_nil, FB_cons, FB_nil, row_bdd, AV.bdds, AV.bdd, Pl.bdd, loop_bddT, hP.bdd]) (by simpa [bayC] using ih3 (by simp [e1]))⟩⟩
            refine rvC_use (changed_c t pv d.slot d.nights hP.app hll (by omega) (by omega) (by omega)).v ?_
            simp only [go_sem, ↓reduceIte, Nat.reduceEqDiff, Nat.reduceAdd, Nat.reduceSub, Nat.reduceMul, Nat.reduceLT, Nat.reduceLeDiff, Int.reduceLE, Int.reduceLT, Int.reduceAdd, Int.reduceSub, Int.reduceMul, Int.reduceEq, Int.reduceBEq, Int.reduceBNe, Int.reduceNeg, Int.reduceToNat, reduceCtorEq]
            refine ⟨fun e2 => ?_, fun e2 => ⟨(by unfold I64; omega), lp_drop 3 hb (by simp [HBs_some, HBs_none, HBs_nil, FB_cons, FB_nil, row_bdd, AV.bdds, AV.bdd, Pl.bdd, loop_bddT, hR.kinds.bdd, hR.slots.bdd, hR.days.bdd, hR.nights.bdd, hR.defs.bdd]) (by simp [HBs_some, HBs_none, HBs_nil, FB_cons, FB_nil, row_bdd, AV.bdds, AV.bdd, Pl.bdd, loop_bddT, hP.bdd]) (by simpa [bayC] using ih3 (by simp [e2]))⟩⟩
            rw [hyes (by rw [e2, e1]; simp)]
          · refine lp_step hmix L24_2_g [1, 2, 4, 5, 7, 9] L24_2.eq_1 ?_
            have m3 : ¬ (b.defs.length : Int) < b.defs.length := by omega
            have hd : defR b t n = -1 := idxOf_none fun i hi => hall3 i hi hi
            rw [hd, if_neg (by omega)] at hf4
            have hr2 : rightR b t k0 (n + 1) (putD n p (t[n].map Int.toNat)) = R := by rw [← hr, rightR, hf4, gt]
            simp only [go_sem, m3, l3, ↓reduceIte, Nat.reduceEqDiff, Nat.reduceAdd, Nat.reduceSub, Nat.reduceMul, Nat.reduceLT, Nat.reduceLeDiff, Int.reduceLE, Int.reduceLT, Int.reduceAdd, Int.reduceSub, Int.reduceMul, Int.reduceEq, Int.reduceBEq, Int.reduceBNe, Int.reduceNeg, Int.reduceToNat, reduceCtorEq]
            obtain ⟨l, el⟩ : ∃ l, l = t[n] := ⟨_, rfl⟩
            rw [← el] at i4 ix row hct hr2 hcl
            obtain ⟨c, ec⟩ : ∃ c, c = l.map Int.toNat := ⟨_, rfl⟩
            rw [← ec] at hr2
            have hcl2 : c.length = l.length := by rw [ec, List.length_map]
            have hcs : ∀ i (hi : i < c.length), ∃ hi' : i < l.length, l[i] = (c[i] : Int) ∧ c[i] < N := fun i hi => by
              have hi' : i < l.length := by omega
              have := hct l[i] (List.getElem_mem hi')
              refine ⟨hi', ?_, ?_⟩ <;> simp only [ec, List.getElem_map] <;> omega
            refine lp_for (S := Unit) (fun i _ => [(1, pv), (2, .ptr (.own h.length 0)), (4, .ptr (.own (h.length + 1) 0)), (5, .sl (.own (h.length + 2) 0) N 1 fl), (7, .int .i64 n), (11, .int .i64 i)])
              (fun i _ => h ++ [some (.row (bayC b v)), some (.row [.int .i64 0, .int .i64 0, .int .i64 0]), some (.row (ints (putD n p (c.take i))))]) (fun _ _ => True) l.length () trivial rfl (by simp [putD, bayC]) (fun i _ hil _ ih2 => ?_) (fun _ _ => ?_)
            · refine lp_step hmix L24_3_g [1, 2, 4, 5, 7, 11] L24_3.eq_1 ?_
              have m4 : (i : Int) < l.length := by omega
              have m5 := ix i hil
              obtain ⟨_, m6, m7⟩ := hcs i (by omega)
              have m8 : ∀ L, rd w0 (h ++ L) (q.add i) = some (.int .i64 c[i]) := fun L => by rw [row i hil, m6]
              obtain ⟨P, eP⟩ : ∃ P, P = putD n p (c.take i) := ⟨_, rfl⟩
              have hP5 : P.length = N := by rw [eP, putD_len, hp]
              have ih2 := ih2 () trivial
              rw [take_succ' (show i < c.length by omega), putD_snoc, ← eP] at ih2
              rw [← eP]
              simp only [go_sem, m4, i1, i2, i4, m5, m8, Nat.mul_one, ints_len, ↓reduceIte, Nat.reduceEqDiff, Nat.reduceAdd, Nat.reduceSub, Nat.reduceMul, Nat.reduceLT, Nat.reduceLeDiff, Int.reduceLE, Int.reduceLT, Int.reduceAdd, Int.reduceSub, Int.reduceMul, Int.reduceEq, Int.reduceBEq, Int.reduceBNe, Int.reduceNeg, Int.reduceToNat, reduceCtorEq]
              have hs2 : (ints P).take c[i] ++ .int .i64 n :: (ints P).drop (c[i] + 1) = ints (P.set c[i] n) := by
                rw [splice_r (by rw [ints_len]; omega), ints_set]
              rw [hs2]
              exact ⟨by omega, by omega, (by unfold I64; omega), by simpa [bayC] using ih2⟩
            · refine lp_step hmix L24_3_g [1, 2, 4, 5, 7, 11] L24_3.eq_1 ?_
              have m4 : ¬ (l.length : Int) < l.length := by omega
              rw [← hcl2, List.take_of_length_le (Nat.le_refl _), hcl2]
              simp only [go_sem, m4, i1, i2, i4, ↓reduceIte, Nat.reduceEqDiff, Nat.reduceAdd, Nat.reduceSub, Nat.reduceMul, Nat.reduceLT, Nat.reduceLeDiff, Int.reduceLE, Int.reduceLT, Int.reduceAdd, Int.reduceSub, Int.reduceMul, Int.reduceEq, Int.reduceBEq, Int.reduceBNe, Int.reduceNeg, Int.reduceToNat, reduceCtorEq]
              refine ⟨(by unfold I64; omega), ?_⟩
              have := ih (n + 1, putD n p c) ⟨by simp only; omega, by simp only [putD_len, hp], putD_bd hpb, by simp only [hk0', hr2]⟩ (by simp only; omega)
              simpa [bayC] using this
    · have m1 : ¬ (n : Int) < b.days.length := by omega
      rw [show b.days.length - n = 0 by omega, rightR] at hr
      simp only [go_sem, m1, l2, ↓reduceIte, Nat.reduceEqDiff, Nat.reduceAdd, Nat.reduceSub, Nat.reduceMul, Nat.reduceLT, Nat.reduceLeDiff, Int.reduceLE, Int.reduceLT, Int.reduceAdd, Int.reduceSub, Int.reduceMul, Int.reduceEq, Int.reduceBEq, Int.reduceBNe, Int.reduceNeg, Int.reduceToNat, reduceCtorEq]
      rw [← hr]
end Go.Proofs.Ab

namespace Go.Proofs.Ab
open Go

def leW (w x : WearD) : Prop := w.minutes.low ≤ x.minutes.low ∧ w.minutes.high ≤ x.minutes.high ∧ w.cycles.low ≤ x.cycles.low ∧ w.cycles.high ≤ x.cycles.high ∧ w.rust.low ≤ x.rust.low ∧ w.rust.high ≤ x.rust.high
theorem leW.trans {a b c : WearD} (h : leW a b) (g : leW b c) : leW a c := by simp only [leW] at *; omega
theorem grow_le {k : KindD} {w : WearD} {u : UseD} (hk : kindB k = true) (hw : wornB w = true) (hu : dayB u = true) : leW w (growS k w u) := by
  have bw := wornB_spec hw
  have bu := dayB_spec hu
  have br := rust_spec hk hu
  simp only [leW, growS, sumS, plus]
  omega
theorem aftL_le {k : KindD} (hk : kindB k = true) : ∀ {us : List UseD} {w : WearD}, wornB w = true → (∀ u ∈ us, dayB u = true) → leW w (aftL k w us)
  | [], w, _, _ => by simp [leW, aftL]
  | u :: us, w, hw, hu => (grow_le hk hw (hu u List.mem_cons_self)).trans (aftL_le (us := us) (w := growS k w u) hk (grow_worn hk hw (hu u List.mem_cons_self)) fun x hx => hu x (List.mem_cons_of_mem _ hx))
def End (en : Span → Int) : Prop := ∀ a b : Span, a.low ≤ b.low → a.high ≤ b.high → en a ≤ en b
theorem end_high : End Span.high := fun _ _ _ h => h
theorem end_low : End Span.low := fun _ _ h _ => h
theorem within_le {en : Span → Int} (he : End en) {k : KindD} {w x : WearD} (h : leW w x) (hx : withinB en k x = true) : withinB en k w = true := by
  simp only [withinB, Bool.and_eq_true, decide_eq_true_eq] at hx ⊢
  obtain ⟨h1, h2, h3, h4, h5, h6⟩ := h
  have := he _ _ h1 h2
  have := he _ _ h3 h4
  have := he _ _ h5 h6
  omega
theorem lastL_ge {en : Span → Int} {k : KindD} : ∀ (us : List UseD) (t0 : Nat) (w : WearD) (last : Int), last < t0 → last ≤ lastL en k (daysL k us t0 w) last
  | [], _, _, _, _ => by simp [daysL, lastL]
  | u :: us, t0, w, last, h => by
    simp only [daysL, lastL]
    split
    · have := lastL_ge (en := en) (k := k) us (t0 + 1) (growS k w u) t0 (by omega); omega
    · exact Int.le_refl _
theorem lastL_lt {en : Span → Int} (he : End en) {k : KindD} (hk : kindB k = true) : ∀ (us : List UseD) (t0 n : Nat) (w : WearD), wornB w = true → (∀ u ∈ us, dayB u = true) → t0 ≤ n → n < t0 + us.length →
    (lastL en k (daysL k us t0 w) ((t0 : Int) - 1) < n ↔ withinB en k (aftL k w (us.take (n - t0 + 1))) = false)
  | [], t0, n, w, _, _, h1, h2 => by simp at h2; omega
  | u :: us, t0, n, w, hw, hu, h1, h2 => by
    have hu1 := hu u List.mem_cons_self
    have hw1 := grow_worn hk hw hu1
    have hus : ∀ x ∈ us, dayB x = true := fun x hx => hu x (List.mem_cons_of_mem _ hx)
    simp only [daysL, lastL, List.take_succ_cons, aftL, List.foldl_cons]
    by_cases hwi : withinB en k (growS k w u) = true
    · rw [if_pos hwi]
      rcases Nat.eq_or_lt_of_le h1 with e | e
      · subst e
        have := lastL_ge (en := en) (k := k) us (t0 + 1) (growS k w u) t0 (by omega)
        simp [hwi]; omega
      · have := lastL_lt he hk us (t0 + 1) n (growS k w u) hw1 hus e (by simp at h2; omega)
        rw [show ((t0 + 1 : Nat) : Int) - 1 = t0 by omega] at this
        rw [this, show n - (t0 + 1) + 1 = n - t0 by omega, aftL]
    · rw [if_neg hwi]
      have h3 : (t0 : Int) - 1 < n := by omega
      refine ⟨fun _ => ?_, fun _ => h3⟩
      cases hq : withinB en k (List.foldl (growS k) (growS k w u) (us.take (n - t0))) with
      | false => rfl
      | true => exact absurd (within_le he (aftL_le (us := us.take (n - t0)) hk hw1 fun x hx => hus x (List.mem_of_mem_take hx)) hq) hwi
theorem lastsD_lt {en : Span → Int} (he : End en) {b : BayD} (hB : bayB b = true) {s : Nat} (hs : s < b.slots.length) {night : Int} (hn : -1 ≤ night) {n : Nat} (h1 : night < n) (h2 : n < b.days.length) :
    lastsD en b s night < n ↔ withinB en (kindOf b s) (afterD b s night n) = false := by
  have bs := bayB_spec hB
  have := lastL_lt he (kindOf_ok hB hs) (b.days.drop (night + 1).toNat) (night + 1).toNat n (beginW b s night) (beginW_ok hB hs night) (fun u hu => bs.2.2.2.2.2.2.2.2.2.2.2.2.1 _ (List.mem_of_mem_drop hu)) (by omega) (by rw [List.length_drop]; omega)
  rw [show (((night + 1).toNat : Nat) : Int) - 1 = night by omega, show n - (night + 1).toNat + 1 = ((n : Int) - night).toNat by omega] at this
  exact this

theorem idxOf_congr {α : Type} {p q : α → Bool} {l : List α} (h : ∀ x ∈ l, p x = q x) : idxOf p l = idxOf q l := by
  have : l.findIdx? p = l.findIdx? q := by
    induction l with
    | nil => rfl
    | cons a l ih => simp only [List.findIdx?_cons, h a List.mem_cons_self, ih fun x hx => h x (List.mem_cons_of_mem _ hx)]
  simp only [idxOf, this]
theorem lookM_bit {n : Nat} : ∀ {c m : List Nat} {s : Nat} (i : Nat), s < m.length → ((lookM n m c).getD s 0).testBit i = ((m.getD s 0).testBit i || (decide (i = n) && c.any fun y => y == s))
  | [], m, s, i, _ => by simp [lookM]
  | x :: c, m, s, i, hs => by
    have ih := lookM_bit (n := n) (c := c) (m := orBit m x n) (s := s) i (by rw [orBit_len]; exact hs)
    simp only [lookM, List.foldl_cons] at ih ⊢
    rw [ih]
    have ho : ((orBit m x n).getD s 0).testBit i = ((m.getD s 0).testBit i || (decide (i = n) && (x == s))) := by
      simp only [orBit, List.getD_eq_getElem?_getD]
      by_cases e : x = s
      · subst e
        rw [List.getElem?_set_self hs]
        simp only [Option.getD_some, Nat.testBit_or, Nat.testBit_two_pow, beq_self_eq_true, Bool.and_true]
        congr 1
        by_cases e2 : i = n <;> simp [e2]
        exact fun x => e2 x.symm
      · rw [List.getElem?_set_ne e]
        simp [e]
    rw [ho, List.any_cons, Bool.or_assoc]
    congr 1
    cases decide (i = n) <;> simp

def BitsI (t : List (List Int)) (n : Nat) (m : List Nat) : Prop := m.length = 5 ∧ ∀ (s i : Nat), s < 5 → (m.getD s 0).testBit i = (decide (i < n) && ((t.getD i []).any fun y => y == (s : Int)))
theorem any_nat {l : List Int} (hl : ∀ x ∈ l, 0 ≤ x) (s : Nat) : (l.map Int.toNat).any (fun y => y == s) = l.any fun y => y == (s : Int) := by
  induction l with
  | nil => rfl
  | cons x l ih =>
    have h0 := hl x List.mem_cons_self
    simp only [List.map_cons, List.any_cons, ih fun y hy => hl y (List.mem_cons_of_mem _ hy)]
    congr 1
    by_cases e : x = (s : Int)
    · simp [e]
    · have : ¬ x.toNat = s := by omega
      rw [beq_eq_false_iff_ne.2 this, beq_eq_false_iff_ne.2 e]
theorem BitsI.look {t : List (List Int)} {n : Nat} {m : List Nat} (B : BitsI t n m) (hl : ∀ x ∈ t.getD n [], 0 ≤ x) : BitsI t (n + 1) (lookM n m ((t.getD n []).map Int.toNat)) := by
  refine ⟨by rw [lookM_len]; exact B.1, fun s i hs => ?_⟩
  rw [lookM_bit i (by rw [B.1]; exact hs), B.2 s i hs, any_nat hl]
  by_cases e : i = n
  · subst e; simp
  · by_cases e2 : i < n
    · have : i < n + 1 := by omega
      simp [e, e2, this]
    · have : ¬ i < n + 1 := by omega
      simp [e, e2, this]
theorem shr_zero {a lo : Nat} : (a / 2 ^ lo == 0) = true ↔ ∀ i, lo ≤ i → a.testBit i = false := by
  rw [beq_iff_eq]
  constructor
  · intro h i hi
    have : (a / 2 ^ lo).testBit (i - lo) = a.testBit i := by rw [Nat.testBit_div_two_pow]; congr 1; omega
    rw [← this, h]; simp
  · intro h
    refine Nat.eq_of_testBit_eq fun i => ?_
    rw [Nat.testBit_div_two_pow, h _ (by omega)]; simp
theorem changedD_iff {t : List (List Int)} {x : Int} {lo n : Nat} (hn : n < t.length) (hlo : lo ≤ n) : changedD t x lo n = true ↔ ∃ i, lo ≤ i ∧ i ≤ n ∧ ((t.getD i []).any fun y => y == x) = true := by
  have e : ((n : Int) + 1 - (lo : Int)).toNat = n + 1 - lo := by omega
  simp only [changedD, e, Int.toNat_natCast]
  rw [List.any_eq_true]
  constructor
  · rintro ⟨l, hl, h⟩
    obtain ⟨j, hj, rfl⟩ := List.getElem_of_mem hl
    simp only [List.length_take, List.length_drop] at hj
    simp only [List.getElem_take, List.getElem_drop] at h
    refine ⟨lo + j, by omega, by omega, ?_⟩
    rw [List.getD_eq_getElem?_getD, List.getElem?_eq_getElem (by omega)]; exact h
  · rintro ⟨i, h1, h2, h⟩
    rw [List.getD_eq_getElem?_getD, List.getElem?_eq_getElem (by omega)] at h
    refine ⟨t[i], List.mem_of_getElem? (i := i - lo) ?_, h⟩
    rw [List.getElem?_take_of_lt (by omega), List.getElem?_drop, show lo + (i - lo) = i by omega, List.getElem?_eq_getElem (by omega)]
theorem defect_eq {b : BayD} (hB : bayB b = true) {t : List (List Int)} (ht : t.length = b.days.length) {n : Nat} (hn : n < b.days.length) {m : List Nat} (B : BitsI t (n + 1) m) : defectD b n m = defR b t n := by
  have bs := bayB_spec hB
  refine idxOf_congr fun d hd => ?_
  have q := bs.2.2.2.2.2.2.2.2.2.2.2.2.2 d hd
  simp only [defB, spanB, inB, Bool.and_eq_true, decide_eq_true_eq] at q
  by_cases e : d.nights.high = (n : Int)
  · have e1 : (d.nights.high == (n : Int)) = true := by simp [e]
    rw [e1, Bool.true_and, Bool.true_and]
    obtain ⟨sl, hsl⟩ : ∃ sl : Nat, d.slot = sl := ⟨d.slot.toNat, by omega⟩
    obtain ⟨lo, hlo⟩ : ∃ lo : Nat, d.nights.low = lo := ⟨d.nights.low.toNat, by omega⟩
    rw [hsl, hlo, e, Int.toNat_natCast, Int.toNat_natCast]
    rw [Bool.eq_iff_iff, shr_zero, Bool.not_eq_true', ← Bool.not_eq_true, changedD_iff (by omega) (by omega)]
    constructor
    · rintro h ⟨i, h1, h2, h3⟩
      have := h i h1
      rw [B.2 sl i (by omega), h3] at this
      simp at this; omega
    · intro h i hi
      rw [B.2 sl i (by omega)]
      by_cases hin : i < n + 1
      · cases hq : (t.getD i []).any fun y => y == (sl : Int) with
        | false => simp
        | true => exact absurd ⟨i, hi, by omega, hq⟩ h
      · simp [hin]
  · have e1 : (d.nights.high == (n : Int)) = false := by simp [e]
    rw [e1, Bool.false_and, Bool.false_and]
theorem over_eq {b : BayD} (hB : bayB b = true) {n : Nat} (hn : n < b.days.length) {p : List Int} (hp : p.length = 5) (hpb : ∀ x ∈ p, -1 ≤ x ∧ x < n) : overD b n p = overR b n (p.take b.slots.length) := by
  have bs := bayB_spec hB
  refine idxOf_congr fun s hs => ?_
  rw [List.mem_range] at hs
  have e1 : (p.take b.slots.length).getD s 0 = p.getD s 0 := by rw [List.getD_eq_getElem?_getD, List.getD_eq_getElem?_getD, List.getElem?_take_of_lt hs]
  have e2 : p.getD s 0 = p[s]'(by omega) := by rw [List.getD_eq_getElem?_getD, List.getElem?_eq_getElem (by omega)]; rfl
  have h0 := hpb (p[s]'(by omega)) (List.getElem_mem _)
  rw [e1, e2, Bool.eq_iff_iff, decide_eq_true_eq, lastsD_lt end_high hB hs h0.1 h0.2 hn, Bool.not_eq_true']
theorem putD_take {n : Nat} : ∀ {c : List Nat} {p : List Int} {N : Nat}, (putD n p c).take N = putD n (p.take N) c
  | [], _, _ => rfl
  | x :: c, p, N => by
    have := putD_take (n := n) (c := c) (p := p.set x n) (N := N)
    simp only [putD, List.foldl_cons] at this ⊢
    rw [this, List.take_set]
theorem choiceB_nn {b : BayD} {t : List (List Int)} (hT : planB b t = true) (n : Nat) : ∀ x ∈ t.getD n [], 0 ≤ x ∧ x < b.slots.length := fun x hx => by
  simp only [planB, Bool.and_eq_true, List.all_eq_true] at hT
  rw [List.getD_eq_getElem?_getD] at hx
  cases e : t[n]? with
  | none => rw [e] at hx; simp at hx
  | some l => rw [e] at hx; exact choiceB_nat (hT.2 l (List.mem_of_getElem? e)) x hx

theorem right_eq {b : BayD} (hB : bayB b = true) {t : List (List Int)} (hT : planB b t = true) : ∀ (k n : Nat) (p : List Int) (m : List Nat), n + k = b.days.length → p.length = 5 → (∀ x ∈ p, -1 ≤ x ∧ x < (n : Int)) → BitsI t n m →
    rightG b n p m (t.drop n) = rightR b t k n (p.take b.slots.length)
  | 0, n, p, m, hk, hp, hpb, B => by
    have ht : t.length = b.days.length := by simp only [planB, Bool.and_eq_true, beq_iff_eq] at hT; exact hT.1
    rw [List.drop_eq_nil_of_le (by omega)]; rfl
  | k + 1, n, p, m, hk, hp, hpb, B => by
    have ht : t.length = b.days.length := by simp only [planB, Bool.and_eq_true, beq_iff_eq] at hT; exact hT.1
    have hnt : n < t.length := by omega
    have hnn := choiceB_nn hT n
    have gt : t.getD n [] = t[n] := by rw [List.getD_eq_getElem?_getD, List.getElem?_eq_getElem hnt]; rfl
    have B' := B.look fun x hx => (hnn x hx).1
    rw [List.drop_eq_getElem_cons hnt]
    simp only [rightG, rightR]
    rw [gt] at B' hnn ⊢
    have hf : faultD b n p (t[n].map Int.toNat) (lookM n m (t[n].map Int.toNat)) = faultR b t n (p.take b.slots.length) := by
      simp only [faultD, faultR, over_eq hB (by omega) hp hpb, defect_eq hB ht (by omega) B', gt, List.length_map]
    rw [hf]
    cases faultR b t n (p.take b.slots.length) with
    | some r => rfl
    | none =>
      have := right_eq hB hT k (n + 1) (putD n p (t[n].map Int.toNat)) (lookM n m (t[n].map Int.toNat)) (by omega) (by rw [putD_len, hp]) (putD_bd hpb) B'
      simp only [this, putD_take]

theorem rightD_eq {b : BayD} (hB : bayB b = true) {t : List (List Int)} (hT : planB b t = true) : rightD b t = rightR b t b.days.length 0 (List.replicate b.slots.length (-1)) := by
  have bs := bayB_spec hB
  have := right_eq hB hT b.days.length 0 [-1, -1, -1, -1, -1] [0, 0, 0, 0, 0] (by omega) rfl (by simp) ⟨rfl, fun s i hs => by
    match s, hs with
    | 0, _ => simp
    | 1, _ => simp
    | 2, _ => simp
    | 3, _ => simp
    | 4, _ => simp⟩
  rw [List.drop_zero] at this
  rw [rightD, this]
  congr 1
  have e : ∀ N, N ≤ 5 → ([-1, -1, -1, -1, -1] : List Int).take N = List.replicate N (-1) := fun N hN => by
    match N, hN with
    | 0, _ => rfl
    | 1, _ => rfl
    | 2, _ => rfl
    | 3, _ => rfl
    | 4, _ => rfl
    | 5, _ => rfl
  exact e _ (by omega)
end Go.Proofs.Ab

namespace Go.Proofs.Ab
open Go Go.Proofs
variable {w0 : World} {h : Heap}
attribute [local irreducible] ACall ACallV AYield DCall DCallV rvC rdC lp rg dr ex un rv rd'

theorem WearRights_c (b : BayD) (v : BayV) (t : List (List Int)) (pv : AV) (hS : BayS w0 h b v) (hP : LL w0 h pv t) (hl : t.length ≤ 9223372036854775807) : DCall Try.prog w0 4 [.agg (bayC b v), pv] h (.bool true) h := by
  refine DCall_quiet hmix mf4_ok mf4_b mf4_g (Nat.le_of_ble_eq_true rfl) (by simp [AV.bdd, AV.bdds]) fun hb ha => ex_in ?_
  have o1 := hS.kinds.one.1
  have o2 := hS.slots.one.1
  have o3 := hS.days.one.1
  have o4 := hS.nights.one.1
  have o5 := hS.defs.one.1
  simp only [go_sem, mf4, o1, o2, o3, o4, o5, ↓reduceIte, Nat.reduceEqDiff, Nat.reduceAdd, Nat.reduceSub, Nat.reduceMul, Nat.reduceLT, Nat.reduceLeDiff, Int.reduceLE, Int.reduceLT, Int.reduceAdd, Int.reduceSub, Int.reduceMul, Int.reduceEq, Int.reduceBEq, Int.reduceBNe, Int.reduceNeg, Int.reduceToNat, reduceCtorEq]
  refine rvC_use (short_c b v hS.app).v ?_
  simp only [go_sem, ↓reduceIte, Nat.reduceEqDiff, Nat.reduceAdd, Nat.reduceSub, Nat.reduceMul, Nat.reduceLT, Nat.reduceLeDiff, Int.reduceLE, Int.reduceLT, Int.reduceAdd, Int.reduceSub, Int.reduceMul, Int.reduceEq, Int.reduceBEq, Int.reduceBNe, Int.reduceNeg, Int.reduceToNat, reduceCtorEq]
  refine ⟨fun e1 => ?_, fun e1 => ?_⟩
  rotate_left
  · refine rvC_use known_c.v ?_
    simp only [go_sem, ↓reduceIte, Nat.reduceEqDiff, Nat.reduceAdd, Nat.reduceSub, Nat.reduceMul, Nat.reduceLT, Nat.reduceLeDiff, Int.reduceLE, Int.reduceLT, Int.reduceAdd, Int.reduceSub, Int.reduceMul, Int.reduceEq, Int.reduceBEq, Int.reduceBNe, Int.reduceNeg, Int.reduceToNat, reduceCtorEq]
  refine rvC_use (brief_c t pv hP.app hl).v ?_
  simp only [go_sem, ↓reduceIte, Nat.reduceEqDiff, Nat.reduceAdd, Nat.reduceSub, Nat.reduceMul, Nat.reduceLT, Nat.reduceLeDiff, Int.reduceLE, Int.reduceLT, Int.reduceAdd, Int.reduceSub, Int.reduceMul, Int.reduceEq, Int.reduceBEq, Int.reduceBNe, Int.reduceNeg, Int.reduceToNat, reduceCtorEq]
  refine ⟨fun e2 => ?_, fun e2 => ?_⟩
  · refine rvC_use known_c.v ?_
    simp only [go_sem, ↓reduceIte, Nat.reduceEqDiff, Nat.reduceAdd, Nat.reduceSub, Nat.reduceMul, Nat.reduceLT, Nat.reduceLeDiff, Int.reduceLE, Int.reduceLT, Int.reduceAdd, Int.reduceSub, Int.reduceMul, Int.reduceEq, Int.reduceBEq, Int.reduceBNe, Int.reduceNeg, Int.reduceToNat, reduceCtorEq]
  have hR := hS.R e1
  have htl : t.length < 1000000 := by
    simp only [briefB, Bool.and_eq_true, decide_eq_true_eq] at e2; omega
  have hll : ∀ l ∈ t, l.length < 1000000 := fun l hl => by
    simp only [briefB, Bool.and_eq_true, decide_eq_true_eq, List.all_eq_true] at e2
    have := e2.1 l hl; omega
  have hRt := Right_c (w0 := w0) (h := h ++ [some (.row (bayC b v))]) b v t pv hR.app hP.app htl hll
  by_cases hf : (bayB b && planB b t) = true
  · rw [RightV, if_pos hf] at hRt
    simp only [Bool.and_eq_true] at hf
    refine rvC_use hRt.v ?_
    simp only [go_sem, ↓reduceIte, Nat.reduceEqDiff, Nat.reduceAdd, Nat.reduceSub, Nat.reduceMul, Nat.reduceLT, Nat.reduceLeDiff, Int.reduceLE, Int.reduceLT, Int.reduceAdd, Int.reduceSub, Int.reduceMul, Int.reduceEq, Int.reduceBEq, Int.reduceBNe, Int.reduceNeg, Int.reduceToNat, reduceCtorEq]
    refine rvC_use (rbay_c b v hR.app).v ?_
    simp only [go_sem, hf.1, ↓reduceIte, Nat.reduceEqDiff, Nat.reduceAdd, Nat.reduceSub, Nat.reduceMul, Nat.reduceLT, Nat.reduceLeDiff, Int.reduceLE, Int.reduceLT, Int.reduceAdd, Int.reduceSub, Int.reduceMul, Int.reduceEq, Int.reduceBEq, Int.reduceBNe, Int.reduceNeg, Int.reduceToNat, reduceCtorEq]
    refine rvC_use (rplans_c b v t pv hR.app hP.app htl hll).v ?_
    simp only [go_sem, hf.2, ↓reduceIte, Nat.reduceEqDiff, Nat.reduceAdd, Nat.reduceSub, Nat.reduceMul, Nat.reduceLT, Nat.reduceLeDiff, Int.reduceLE, Int.reduceLT, Int.reduceAdd, Int.reduceSub, Int.reduceMul, Int.reduceEq, Int.reduceBEq, Int.reduceBNe, Int.reduceNeg, Int.reduceToNat, reduceCtorEq]
    refine rdC_q (rright_c b v t pv hR.app hf.1 hP.app hf.2 hll).v ?_
    rw [rightD_eq hf.1 hf.2]
    simp only [go_sem, ↓reduceIte, Nat.reduceEqDiff, Nat.reduceAdd, Nat.reduceSub, Nat.reduceMul, Nat.reduceLT, Nat.reduceLeDiff, Int.reduceLE, Int.reduceLT, Int.reduceAdd, Int.reduceSub, Int.reduceMul, Int.reduceEq, Int.reduceBEq, Int.reduceBNe, Int.reduceNeg, Int.reduceToNat, reduceCtorEq]
    refine rdC_q known_c.v ?_
    simp only [go_sem, ↓reduceIte, Nat.reduceEqDiff, Nat.reduceAdd, Nat.reduceSub, Nat.reduceMul, Nat.reduceLT, Nat.reduceLeDiff, Int.reduceLE, Int.reduceLT, Int.reduceAdd, Int.reduceSub, Int.reduceMul, Int.reduceEq, Int.reduceBEq, Int.reduceBNe, Int.reduceNeg, Int.reduceToNat, reduceCtorEq]
  · rw [RightV, if_neg hf] at hRt
    refine rvC_use hRt.v ?_
    simp only [go_sem, ↓reduceIte, Nat.reduceEqDiff, Nat.reduceAdd, Nat.reduceSub, Nat.reduceMul, Nat.reduceLT, Nat.reduceLeDiff, Int.reduceLE, Int.reduceLT, Int.reduceAdd, Int.reduceSub, Int.reduceMul, Int.reduceEq, Int.reduceBEq, Int.reduceBNe, Int.reduceNeg, Int.reduceToNat, reduceCtorEq]
    refine rvC_use (rbay_c b v hR.app).v ?_
    simp only [go_sem, ↓reduceIte, Nat.reduceEqDiff, Nat.reduceAdd, Nat.reduceSub, Nat.reduceMul, Nat.reduceLT, Nat.reduceLeDiff, Int.reduceLE, Int.reduceLT, Int.reduceAdd, Int.reduceSub, Int.reduceMul, Int.reduceEq, Int.reduceBEq, Int.reduceBNe, Int.reduceNeg, Int.reduceToNat, reduceCtorEq]
    refine ⟨fun f1 => ?_, fun f1 => ?_⟩
    · refine rvC_use (rplans_c b v t pv hR.app hP.app htl hll).v ?_
      have f2 : planB b t = false := by simpa [f1] using hf
      simp only [go_sem, f2, ↓reduceIte, Nat.reduceEqDiff, Nat.reduceAdd, Nat.reduceSub, Nat.reduceMul, Nat.reduceLT, Nat.reduceLeDiff, Int.reduceLE, Int.reduceLT, Int.reduceAdd, Int.reduceSub, Int.reduceMul, Int.reduceEq, Int.reduceBEq, Int.reduceBNe, Int.reduceNeg, Int.reduceToNat, reduceCtorEq]
      refine rvC_use known_c.v ?_
      simp only [go_sem, ↓reduceIte, Nat.reduceEqDiff, Nat.reduceAdd, Nat.reduceSub, Nat.reduceMul, Nat.reduceLT, Nat.reduceLeDiff, Int.reduceLE, Int.reduceLT, Int.reduceAdd, Int.reduceSub, Int.reduceMul, Int.reduceEq, Int.reduceBEq, Int.reduceBNe, Int.reduceNeg, Int.reduceToNat, reduceCtorEq]
    · refine rvC_use known_c.v ?_
      simp only [go_sem, ↓reduceIte, Nat.reduceEqDiff, Nat.reduceAdd, Nat.reduceSub, Nat.reduceMul, Nat.reduceLT, Nat.reduceLeDiff, Int.reduceLE, Int.reduceLT, Int.reduceAdd, Int.reduceSub, Int.reduceMul, Int.reduceEq, Int.reduceBEq, Int.reduceBNe, Int.reduceNeg, Int.reduceToNat, reduceCtorEq]
end Go.Proofs.Ab

namespace Go.Proofs.Ab
open Go

section
variable {w : World} {h : Heap}
theorem rdn_old {a : Addr} {n : Nat} {cs : List Value} (e : w.cells? 0 a n = some cs) : rdn w h (.old a) n = some (cs.map inj) := by
  have key : ∀ (l : List Nat) (cs : List Value), (l.mapM fun i => w.cell? (a.add i)) = some cs → (l.mapM fun j => (w.cell? (a.add j)).map inj) = some (cs.map inj) := by
    intro l
    induction l with
    | nil => intro cs h; simp at h; subst h; rfl
    | cons x l ih =>
      intro cs h
      simp only [List.mapM_cons, Option.bind_eq_bind, Option.bind_eq_some_iff] at h
      obtain ⟨y, hy, ys, hys, h⟩ := h
      cases h
      simp only [List.mapM_cons, hy, ih ys hys, Option.map_some, Option.bind_eq_bind, Option.bind_some]; rfl
  simp only [World.cells?, Nat.zero_le, if_true] at e
  exact key _ _ e

def SliceIn (w : World) (e : Rw) (v : Value) : Prop := v = .slice none 0 0 ∨ ∃ a len cap, v = .slice (some a) len cap ∧ len ≤ cap ∧ cap ≤ maxLen ∧ ∀ i, i < len → ∃ c, w.cells? 0 (a.add (i * e.size)) e.size = some c ∧ Gd w e c
theorem rows_of {e : Rw} {v : Value} (g : SliceIn w e v) : ∃ rows, Sl w h e.size (inj v) rows ∧ rows.length ≤ 9223372036854775807 ∧ ∀ c ∈ rows, ∃ cs, c = cs.map inj ∧ Gd w e cs := by
  rcases g with rfl | ⟨a, len, cap, rfl, h1, h2, h3⟩
  · exact ⟨[], .inl ⟨rfl, rfl⟩, by simp, fun c hc => by cases hc⟩
  · refine ⟨(List.range len).map fun i => ((w.cells? 0 (a.add (i * e.size)) e.size).getD []).map inj, ?_, ?_, ?_⟩
    · refine .inr ⟨.old a, false, ⟨0, ?_, rfl⟩, trivial, fun j c hc => ?_⟩
      · simp only [inj, if_pos h1, List.length_map, List.length_range]
      · simp only [List.getElem?_map, Option.map_eq_some_iff] at hc
        obtain ⟨i, hi, rfl⟩ := hc
        have hj := hi
        have hjl : j < len := by have := List.getElem?_eq_some_iff.1 hi; simpa using this.1
        rw [List.getElem?_range hjl] at hi
        cases hi
        obtain ⟨c, hc, _⟩ := h3 j hjl
        simp only [Pl.add, hc, Option.getD_some]
        exact rdn_old hc
    · simp only [List.length_map, List.length_range]
      have : maxLen = 9223372036854775807 := rfl
      omega
    · intro c hc
      simp only [List.mem_map, List.mem_range] at hc
      obtain ⟨i, hi, rfl⟩ := hc
      obtain ⟨c, hc, g⟩ := h3 i hi
      exact ⟨c, by rw [hc]; rfl, g⟩
theorem rows_map {α : Type} {f : α → List AV} {p : α → Prop} : ∀ {rows : List (List AV)}, (∀ c ∈ rows, ∃ a, c = f a ∧ p a) → ∃ l : List α, rows = l.map f ∧ ∀ a ∈ l, p a
  | [], _ => ⟨[], rfl, fun a ha => by cases ha⟩
  | c :: rows, hc => by
    obtain ⟨a, rfl, ha⟩ := hc c List.mem_cons_self
    obtain ⟨l, rfl, hl⟩ := rows_map (rows := rows) fun c' hc' => hc c' (List.mem_cons_of_mem _ hc')
    refine ⟨a :: l, rfl, fun x hx => ?_⟩
    rcases List.mem_cons.1 hx with rfl | hx
    · exact ha
    · exact hl x hx
theorem slice_of {α : Type} {e : Rw} {n : Nat} {v : Value} (f : α → List AV) (hn : e.size = n) (g : SliceIn w e v) (he : ∀ cs, Gd w e cs → ∃ a, cs.map inj = f a) : ∃ l : List α, Sl w h n (inj v) (l.map f) ∧ l.length ≤ 9223372036854775807 := by
  obtain ⟨rows, h1, h2, h3⟩ := rows_of (h := h) g
  obtain ⟨l, rfl, _⟩ := rows_map (f := f) (p := fun _ => True) (rows := rows) fun c hc => by
    obtain ⟨cs, rfl, g⟩ := h3 c hc
    obtain ⟨a, ha⟩ := he cs g
    exact ⟨a, ha, trivial⟩
  exact ⟨l, hn ▸ h1, by simpa using h2⟩
theorem ints_of {v : Value} (g : SliceIn w (.int .nil) v) : ∃ l : List Int, Sl w h 1 (inj v) (l.map fun z => [AV.int .i64 z]) ∧ l.length ≤ 9223372036854775807 :=
  slice_of (fun z => [AV.int .i64 z]) rfl g fun cs g => by
    obtain ⟨n, _, rfl, _, rfl⟩ := g
    exact ⟨n, rfl⟩
end
end Go.Proofs.Ab

namespace Go.Proofs.Ab
open Go Go.Proofs
variable {w : World} {h : Heap} {cs : List Value}

def partRw : Rw := .int wearRw
def defRw : Rw := .int (.int (.int .nil))
def bayRw : Rw := .sl kindRw (.sl partRw (.sl useRw (.sl (.bool .nil) (.int (.sl defRw .nil)))))
theorem part_of (g : Gd w partRw cs) : ∃ k : PartD, cs.map inj = k.c := by
  obtain ⟨k, _, rfl, _, a0, _, rfl, _, a1, _, rfl, _, a2, _, rfl, _, a3, _, rfl, _, a4, _, rfl, _, a5, _, rfl, _, rfl⟩ := g
  exact ⟨⟨k, ⟨⟨a0, a1⟩, ⟨a2, a3⟩, ⟨a4, a5⟩⟩⟩, rfl⟩
theorem def_of (g : Gd w defRw cs) : ∃ k : DefD, cs.map inj = k.c := by
  obtain ⟨a0, _, rfl, _, a1, _, rfl, _, a2, _, rfl, _, rfl⟩ := g
  exact ⟨⟨a0, ⟨a1, a2⟩⟩, rfl⟩
theorem bay_of (g : Gd w bayRw cs) : ∃ (b : BayD) (v : BayV), cs.map inj = bayC b v ∧ BayS w h b v := by
  obtain ⟨v0, _, rfl, g0, v1, _, rfl, g1, v2, _, rfl, g2, v3, _, rfl, g3, m, _, rfl, _, v4, _, rfl, g4, rfl⟩ := g
  obtain ⟨l0, s0, _⟩ := slice_of (h := h) KindD.c rfl g0 fun _ g => kind_of g
  obtain ⟨l1, s1, _⟩ := slice_of (h := h) PartD.c rfl g1 fun _ g => part_of g
  obtain ⟨l2, s2, _⟩ := slice_of (h := h) UseD.c rfl g2 fun _ g => use_of g
  obtain ⟨l3, s3, _⟩ := slice_of (h := h) (fun x => [AV.bool x]) rfl g3 fun _ g => by
    obtain ⟨b, _, rfl, rfl⟩ := g
    exact ⟨b, rfl⟩
  obtain ⟨l4, s4, _⟩ := slice_of (h := h) DefD.c rfl g4 fun _ g => def_of g
  exact ⟨⟨l0, l1, l2, l3, m, l4⟩, ⟨inj v0, inj v1, inj v2, inj v3, inj v4⟩, rfl, s0, s1, s2, s3, s4⟩

def planRw : Rw := .sl (.sl (.int .nil) .nil) .nil
theorem plan_of {v : Value} (g : Gd w planRw [v]) : ∃ t : List (List Int), LL w h (inj v) t ∧ t.length ≤ 9223372036854775807 := by
  obtain ⟨v0, _, e, g0, rfl⟩ := g
  cases e
  obtain ⟨rows, h1, h2, h3⟩ := rows_of (h := h) g0
  obtain ⟨l, rfl, hl⟩ := rows_map (f := fun x : AV => [x]) (p := fun x => ∃ q : List Int, SlI w h x q) (rows := rows) fun c hc => by
    obtain ⟨cs, rfl, u, _, rfl, g1, rfl⟩ := h3 c hc
    obtain ⟨q, hq, _⟩ := ints_of (h := h) g1
    exact ⟨inj u, rfl, q, hq⟩
  have : ∃ t : List (List Int), t.length = l.length ∧ ∀ (j : Nat) x q, l[j]? = some x → t[j]? = some q → SlI w h x q := by
    clear h1 h2 h3
    induction l with
    | nil => exact ⟨[], rfl, fun j x q e => by simp at e⟩
    | cons x l ih =>
      obtain ⟨t, t1, t2⟩ := ih fun a ha => hl a (List.mem_cons_of_mem _ ha)
      obtain ⟨q, hq⟩ := hl x List.mem_cons_self
      refine ⟨q :: t, by simp [t1], fun j y r e1 e2 => ?_⟩
      cases j with
      | zero => simp at e1 e2; subst e1; subst e2; exact hq
      | succ j => exact t2 j y r (by simpa using e1) (by simpa using e2)
  obtain ⟨t, t1, t2⟩ := this
  exact ⟨t, ⟨l, t1.symm, h1, t2⟩, by rw [t1]; simpa using h2⟩

theorem int_of {v : Value} (g : Gd w (.int .nil) [v]) : ∃ n : Int, inj v = .int .i64 n ∧ I64 n := by
  obtain ⟨n, _, e, h, rfl⟩ := g
  cases e; exact ⟨n, rfl, h⟩
def spanRw : Rw := .int (.int .nil)
theorem span_of (g : Gd w spanRw cs) : ∃ s : Span, cs.map inj = s.c ∧ I64 s.low ∧ I64 s.high := by
  obtain ⟨a, _, rfl, h1, b, _, rfl, h2, rfl⟩ := g
  exact ⟨⟨a, b⟩, rfl, h1, h2⟩
theorem list_of {v : Value} (g : Gd w (.sl (.int .nil) .nil) [v]) : ∃ l : List Int, SlI w h (inj v) l ∧ l.length ≤ 9223372036854775807 := by
  obtain ⟨_, _, e, h, rfl⟩ := g
  cases e; exact ints_of h
theorem spans_of {v : Value} (g : Gd w (.sl spanRw .nil) [v]) : ∃ l : List Span, Sl w h 2 (inj v) (l.map Span.c) ∧ l.length ≤ 9223372036854775807 := by
  obtain ⟨_, _, e, h, rfl⟩ := g
  cases e
  exact slice_of Span.c rfl h fun _ g => by
    obtain ⟨a, x, _⟩ := span_of g
    exact ⟨a, x⟩
end Go.Proofs.Ab

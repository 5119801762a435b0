/- The own layer under the proofs of this seat, part R: what calls of the program come to on an abstract heap. No condition. -/
import Derived.Test.YtammfjjepbekaaaY
import Derived.Test.YtammfjjepbekaaaZ
import Derived.Test.YtammfjjepbekaaaG
set_option linter.unusedSimpArgs false
set_option linter.unusedVariables false
namespace Go.Proofs.Ab
open Go Go.Proofs
variable {w0 : World} {h : Heap}
attribute [local irreducible] ACall ACallV AYield DCall DCallV rvC rdC lp rg dr ex un rv rd'

theorem rneeded_c (b : BayD) (v : BayV) (sp : Span) (hR : BayR w0 h b v) (hB : bayB b = true) (h1 : 0 ≤ sp.low) (h2 : sp.low ≤ sp.high) (h3 : sp.high < b.days.length) :
    DCall Try.prog w0 42 [.agg (bayC b v), .agg sp.c] h (.int .i64 (neededD b sp)) h := by
  refine DCall_quiet hmix mf42_ok mf42_b mf42_g (Nat.le_of_ble_eq_true rfl) (by simp [AV.bdd, AV.bdds]) fun hb ha => ex_in ?_
  have bs := bayB_spec hB
  have o1 := hR.kinds.one.1
  have o2 := hR.slots.one.1
  have o3 := hR.days.one.1
  have o4 := hR.nights.one.1
  have o5 := hR.defs.one.1
  have l1 := hR.slots.use.1
  have l2 := hR.days.use.1
  obtain ⟨l3, fp, f2, f3, _⟩ := hR.defs.use
  simp only [List.length_map] at l1 l2 l3 f2
  simp only [go_sem, mf42, o1, o2, o3, o4, o5, ↓reduceIte, Nat.reduceEqDiff, Nat.reduceAdd, Nat.reduceSub, Nat.reduceMul, Nat.reduceLT, Nat.reduceLeDiff, Int.reduceLE, Int.reduceLT, Int.reduceAdd, Int.reduceSub, Int.reduceMul, Int.reduceEq, Int.reduceBEq, Int.reduceBNe, Int.reduceNeg, Int.reduceToNat, reduceCtorEq]
  refine lp_all (fun j => [(2, .ptr (.own h.length 0)), (3, .ptr (.own (h.length + 1) 0)), (5, .int .i64 j)]) (fun j => slotNeeds b sp j = false) b.slots.length rfl (fun j hj hall ih => ?_) (fun hall => ?_)
  · refine lp_step hmix L42_1_g [2, 3, 5] L42_1.eq_1 ?_
    have m1 : (j : Int) < b.slots.length := by omega
    have hyes : slotNeeds b sp j = true → neededD b sp = j := fun e => idxOf_at (j := j) (by simpa using hj) (fun i hi hi2 => by simpa using hall i hi) (by simpa using e)
    simp only [go_sem, m1, l1, ↓reduceIte, Nat.reduceEqDiff, Nat.reduceAdd, Nat.reduceSub, Nat.reduceMul, Nat.reduceLT, Nat.reduceLeDiff, Int.reduceLE, Int.reduceLT, Int.reduceAdd, Int.reduceSub, Int.reduceMul, Int.reduceEq, Int.reduceBEq, Int.reduceBNe, Int.reduceNeg, Int.reduceToNat, reduceCtorEq]
    refine ⟨(by unfold I64; omega), ?_⟩
    refine rvC_use (rlasts_c b v j (sp.low - 1) hR.app hB hj (by omega) (by omega)).v ?_
    simp only [go_sem, l2, ↓reduceIte, Nat.reduceEqDiff, Nat.reduceAdd, Nat.reduceSub, Nat.reduceMul, Nat.reduceLT, Nat.reduceLeDiff, Int.reduceLE, Int.reduceLT, Int.reduceAdd, Int.reduceSub, Int.reduceMul, Int.reduceEq, Int.reduceBEq, Int.reduceBNe, Int.reduceNeg, Int.reduceToNat, reduceCtorEq]
    refine ⟨(by unfold I64; omega), ?_⟩
    have hdefs : (decide (sp.high + 1 < b.days.length) && decide (lastsD Span.high b j (sp.low - 1) < sp.high + 1)) = false → lp Try.prog w0 none 74 h.length (quietK w0 [RV.t 4] h (AV.int IntKind.i64 (neededD b sp))) L42_0
        [.inBlk 2, .inBlk 1, .code (.reg [.op (some 15) none (.mov (.t 5)), .op (some 16) none (.bin .add (.t 15) (.k (.int .i64 1))), .op (some 5) none (.mov (.t 16))]), .inLoop [2, 3, 5] L42_1, .inBlk 0, .code (.seq (.reg [.op (some 4) none (.mov (.k (.int .i64 (-1))))]) .ret)]
        [(2, .ptr (.own h.length 0)), (3, .ptr (.own (h.length + 1) 0)), (5, .int .i64 j), (8, .int .i64 0)] (h ++ [some (.row (bayC b v)), some (.row sp.c)]) := fun e0 => by
      refine lp_all (fun i => [(2, .ptr (.own h.length 0)), (3, .ptr (.own (h.length + 1) 0)), (5, .int .i64 j), (8, .int .i64 i)]) (fun i => ∀ hi : i < b.defs.length, defIn sp j b.defs[i] = false) b.defs.length rfl (fun i hi hall2 ih2 => ?_) (fun hall2 => ?_)
      · refine lp_step hmix L42_0_g [2, 3, 5, 8] L42_0.eq_1 ?_
        have m2 : (i : Int) < b.defs.length := by omega
        have q1 := f2 i hi
        obtain ⟨d, ed⟩ : ∃ d, d = b.defs[i] := ⟨_, rfl⟩
        have q2 : ∀ L, rdn w0 (h ++ L) (fp.add (i * 3)) 3 = some d.c := fun L => rdn_app (f3 i _ (by simp [hi, ed]))
        have hy2 : defIn sp j d = true → neededD b sp = j := fun e => hyes (by
          simp only [slotNeeds, Bool.or_eq_true, List.any_eq_true]
          exact .inr ⟨d, by rw [ed]; exact List.getElem_mem hi, e⟩)
        have ih2 : defIn sp j d = false → _ := fun e => ih2 fun _ => ed ▸ e
        have hdr := fun e => lp_drop (P := Try.prog) (w0 := w0) (r := none) (nt := 74) (Q := quietK w0 [RV.t 4] h (AV.int IntKind.i64 (neededD b sp))) (a := L42_0) (l := [some (.row (bayC b v)), some (.row sp.c), some (.row d.c)]) 2 hb (by simp [HBs_some, HBs_none, HBs_nil, FB_cons, FB_nil, row_bdd, AV.bdds, AV.bdd, Pl.bdd, loop_bddT, hR.kinds.bdd, hR.slots.bdd, hR.days.bdd, hR.nights.bdd, hR.defs.bdd, bayC]) (by simp [HBs_some, HBs_none, HBs_nil, FB_cons, FB_nil, row_bdd, AV.bdds, AV.bdd, Pl.bdd, loop_bddT]) (ih2 e)
        simp only [go_sem, m2, l3, q1, q2, ↓reduceIte, Nat.reduceEqDiff, Nat.reduceAdd, Nat.reduceSub, Nat.reduceMul, Nat.reduceLT, Nat.reduceLeDiff, Int.reduceLE, Int.reduceLT, Int.reduceAdd, Int.reduceSub, Int.reduceMul, Int.reduceEq, Int.reduceBEq, Int.reduceBNe, Int.reduceNeg, Int.reduceToNat, reduceCtorEq]
        refine ⟨fun e1 => ⟨fun e2 => ⟨fun e3 => ?_, fun e3 => ?_⟩, fun e2 => ?_⟩, fun e1 => ?_⟩
        · rw [hy2 (by simp [defIn, e1, e2, e3])]
        · have n1 : ¬ d.nights.high ≤ sp.high := by omega
          have n2 : defIn sp j d = false := by simp [defIn, n1]
          exact ⟨(by unfold I64; omega), by simpa [bayC, DefD.c, Span.c] using hdr n2⟩
        · have n1 : ¬ sp.low ≤ d.nights.low := by omega
          have n2 : defIn sp j d = false := by simp [defIn, n1]
          exact ⟨(by unfold I64; omega), by simpa [bayC, DefD.c, Span.c] using hdr n2⟩
        · have n2 : defIn sp j d = false := by simp [defIn, e1]
          exact ⟨(by unfold I64; omega), by simpa [bayC, DefD.c, Span.c] using hdr n2⟩
      · refine lp_step hmix L42_0_g [2, 3, 5, 8] L42_0.eq_1 ?_
        have m2 : ¬ (b.defs.length : Int) < b.defs.length := by omega
        simp only [go_sem, m2, l3, ↓reduceIte, Nat.reduceEqDiff, Nat.reduceAdd, Nat.reduceSub, Nat.reduceMul, Nat.reduceLT, Nat.reduceLeDiff, Int.reduceLE, Int.reduceLT, Int.reduceAdd, Int.reduceSub, Int.reduceMul, Int.reduceEq, Int.reduceBEq, Int.reduceBNe, Int.reduceNeg, Int.reduceToNat, reduceCtorEq]
        have hno : slotNeeds b sp j = false := by
          rw [slotNeeds, e0, Bool.false_or]
          exact List.any_eq_false.2 fun d hd => by
            obtain ⟨i, hi, rfl⟩ := List.getElem_of_mem hd
            simp [hall2 i hi hi]
        exact ⟨(by unfold I64; omega), by simpa [bayC, Span.c] using ih hno⟩
    refine ⟨fun e1 => ⟨(by unfold I64; omega), fun e2 => ?_, fun e2 => ?_⟩, fun e1 => ?_⟩
    · rw [hyes (by simp [slotNeeds, e1, e2])]
    · have n1 : ¬ lastsD Span.high b j (sp.low - 1) < sp.high + 1 := by omega
      simpa [bayC, Span.c] using hdefs (by simp [n1])
    · have n1 : ¬ sp.high + 1 < b.days.length := by omega
      simpa [bayC, Span.c] using hdefs (by simp [n1])
  · refine lp_step hmix L42_1_g [2, 3, 5] L42_1.eq_1 ?_
    have m1 : ¬ (b.slots.length : Int) < b.slots.length := by omega
    simp only [go_sem, m1, l1, ↓reduceIte, Nat.reduceEqDiff, Nat.reduceAdd, Nat.reduceSub, Nat.reduceMul, Nat.reduceLT, Nat.reduceLeDiff, Int.reduceLE, Int.reduceLT, Int.reduceAdd, Int.reduceSub, Int.reduceMul, Int.reduceEq, Int.reduceBEq, Int.reduceBNe, Int.reduceNeg, Int.reduceToNat, reduceCtorEq]
    rw [neededD, idxOf_none fun i hi => by simpa using hall i (by simpa using hi)]

def proveK (b : BayD) (l : List Span) (i : Nat) : Bool := spanB (l.getD i ⟨0, 0⟩) 0 (b.days.length - 1) && (!(decide (0 < i) && decide ((l.getD i ⟨0, 0⟩).low ≤ (l.getD (i - 1) ⟨0, 0⟩).high)) && decide (0 ≤ neededD b (l.getD i ⟨0, 0⟩)))
def provesB (b : BayD) (l : List Span) : Bool := (List.range l.length).all (proveK b l)

theorem rproves_c (b : BayD) (v : BayV) (l : List Span) (lv : AV) (hR : BayR w0 h b v) (hB : bayB b = true) (hl : Sl w0 h 2 lv (l.map Span.c)) (hn : l.length < 1000000) :
    DCall Try.prog w0 37 [.agg (bayC b v), lv] h (.bool (provesB b l)) h := by
  refine DCall_quiet hmix mf37_ok mf37_b mf37_g (Nat.le_of_ble_eq_true rfl) (by simp [AV.bdd, AV.bdds]) fun hb ha => ex_in ?_
  have bs := bayB_spec hB
  have o1 := hR.kinds.one.1
  have o2 := hR.slots.one.1
  have o3 := hR.days.one.1
  have o4 := hR.nights.one.1
  have o5 := hR.defs.one.1
  have l2 := hR.days.use.1
  obtain ⟨ln, lp', lx, lr, _⟩ := hl.use
  simp only [List.length_map] at l2 ln lx
  simp only [go_sem, mf37, o1, o2, o3, o4, o5, ↓reduceIte, Nat.reduceEqDiff, Nat.reduceAdd, Nat.reduceSub, Nat.reduceMul, Nat.reduceLT, Nat.reduceLeDiff, Int.reduceLE, Int.reduceLT, Int.reduceAdd, Int.reduceSub, Int.reduceMul, Int.reduceEq, Int.reduceBEq, Int.reduceBNe, Int.reduceNeg, Int.reduceToNat, reduceCtorEq]
  refine lp_all (fun j => [(1, lv), (2, .ptr (.own h.length 0)), (5, .int .i64 j)]) (fun j => proveK b l j = true) l.length rfl (fun j hj hall ih => ?_) (fun hall => ?_)
  · refine lp_step hmix L37_0_g [1, 2, 5] L37_0.eq_1 ?_
    have m1 : (j : Int) < l.length := by omega
    have i1 := lx j hj
    obtain ⟨s, es⟩ : ∃ s, s = l[j] := ⟨_, rfl⟩
    have i2 : ∀ L, rdn w0 (h ++ L) (lp'.add (j * 2)) 2 = some s.c := fun L => rdn_app (lr j _ (by simp [hj, es]))
    have i3 : ∀ L, rd w0 (h ++ L) ((lp'.add (j * 2)).add 0) = some (.int .i64 s.low) := fun L => rd_get (i2 L) rfl
    have gs : l.getD j ⟨0, 0⟩ = s := by rw [getD_at hj, es]
    have hno : proveK b l j = false → provesB b l = false := fun e => List.all_eq_false.2 ⟨j, List.mem_range.2 hj, by simp [e]⟩
    simp only [proveK, gs] at hno ih
    simp only [go_sem, m1, ln, i1, i2, l2, ↓reduceIte, Nat.reduceEqDiff, Nat.reduceAdd, Nat.reduceSub, Nat.reduceMul, Nat.reduceLT, Nat.reduceLeDiff, Int.reduceLE, Int.reduceLT, Int.reduceAdd, Int.reduceSub, Int.reduceMul, Int.reduceEq, Int.reduceBEq, Int.reduceBNe, Int.reduceNeg, Int.reduceToNat, reduceCtorEq]
    refine ⟨(by unfold I64; omega), ?_⟩
    refine rdC_q (rspan_c s _).v ?_
    cases e1 : spanB s 0 (b.days.length - 1) with
    | false =>
      simp only [go_sem, ↓reduceIte, Nat.reduceEqDiff, Nat.reduceAdd, Nat.reduceSub, Nat.reduceMul, Nat.reduceLT, Nat.reduceLeDiff, Int.reduceLE, Int.reduceLT, Int.reduceAdd, Int.reduceSub, Int.reduceMul, Int.reduceEq, Int.reduceBEq, Int.reduceBNe, Int.reduceNeg, Int.reduceToNat, reduceCtorEq]
      rw [hno (by rw [e1]; rfl)]
    | true =>
    rw [e1] at hno ih
    simp only [Bool.true_and] at hno ih
    have q1 := e1
    simp only [spanB, Bool.and_eq_true, decide_eq_true_eq] at q1
    by_cases h0 : 0 < j
    · have m2 : (0 : Int) < j := by omega
      have i4 := lx (j - 1) (by omega)
      have i5 : (if (0 : Int) ≤ (j : Int) - 1 then some ((j : Int) - 1).toNat else none) = some (j - 1) := by
        rw [if_pos (by omega)]; congr 1; omega
      obtain ⟨r, er⟩ : ∃ r, r = l[j - 1] := ⟨_, rfl⟩
      have gr : l.getD (j - 1) ⟨0, 0⟩ = r := by rw [getD_at (by omega), er]
      have i6 : ∀ L, rdn w0 (h ++ L) (lp'.add ((j - 1) * 2)) 2 = some r.c := fun L => rdn_app (lr (j - 1) _ (by simp [show j - 1 < l.length by omega, er]))
      have i7 : ∀ L, rd w0 (h ++ L) ((lp'.add ((j - 1) * 2)).add 1) = some (.int .i64 r.high) := fun L => rd_get (i6 L) rfl
      rw [gr, decide_eq_true h0, Bool.true_and] at hno ih
      simp only [go_sem, m2, i1, i3, ↓reduceIte, Nat.reduceEqDiff, Nat.reduceAdd, Nat.reduceSub, Nat.reduceMul, Nat.reduceLT, Nat.reduceLeDiff, Int.reduceLE, Int.reduceLT, Int.reduceAdd, Int.reduceSub, Int.reduceMul, Int.reduceEq, Int.reduceBEq, Int.reduceBNe, Int.reduceNeg, Int.reduceToNat, reduceCtorEq]
      refine ⟨(by unfold I64; omega), ?_⟩
      simp only [go_sem, i5, i4, i7, ↓reduceIte, Nat.reduceEqDiff, Nat.reduceAdd, Nat.reduceSub, Nat.reduceMul, Nat.reduceLT, Nat.reduceLeDiff, Int.reduceLE, Int.reduceLT, Int.reduceAdd, Int.reduceSub, Int.reduceMul, Int.reduceEq, Int.reduceBEq, Int.reduceBNe, Int.reduceNeg, Int.reduceToNat, reduceCtorEq]
      refine ⟨fun e2 => ?_, fun e2 => ?_⟩
      · have n1 : ¬ s.low ≤ r.high := by omega
        rw [decide_eq_false n1, Bool.not_false, Bool.true_and] at hno ih
        simp only [go_sem, i1, i2, ↓reduceIte, Nat.reduceEqDiff, Nat.reduceAdd, Nat.reduceSub, Nat.reduceMul, Nat.reduceLT, Nat.reduceLeDiff, Int.reduceLE, Int.reduceLT, Int.reduceAdd, Int.reduceSub, Int.reduceMul, Int.reduceEq, Int.reduceBEq, Int.reduceBNe, Int.reduceNeg, Int.reduceToNat, reduceCtorEq]
        refine rdC_q (rneeded_c b v s hR.app hB (by omega) (by omega) (by omega)).v ?_
        simp only [go_sem, ↓reduceIte, Nat.reduceEqDiff, Nat.reduceAdd, Nat.reduceSub, Nat.reduceMul, Nat.reduceLT, Nat.reduceLeDiff, Int.reduceLE, Int.reduceLT, Int.reduceAdd, Int.reduceSub, Int.reduceMul, Int.reduceEq, Int.reduceBEq, Int.reduceBNe, Int.reduceNeg, Int.reduceToNat, reduceCtorEq]
        refine ⟨fun e3 => ?_, fun e3 => ⟨(by unfold I64; omega), ?_⟩⟩
        · rw [hno (decide_eq_false (by omega))]
        · simpa [bayC] using ih (decide_eq_true (by omega))
      · rw [hno (by rw [decide_eq_true e2]; rfl)]
    · have m2 : ¬ (0 : Int) < j := by omega
      rw [decide_eq_false h0, Bool.false_and, Bool.not_false, Bool.true_and] at hno ih
      simp only [go_sem, m2, i1, i2, ↓reduceIte, Nat.reduceEqDiff, Nat.reduceAdd, Nat.reduceSub, Nat.reduceMul, Nat.reduceLT, Nat.reduceLeDiff, Int.reduceLE, Int.reduceLT, Int.reduceAdd, Int.reduceSub, Int.reduceMul, Int.reduceEq, Int.reduceBEq, Int.reduceBNe, Int.reduceNeg, Int.reduceToNat, reduceCtorEq]
      refine rdC_q (rneeded_c b v s hR.app hB (by omega) (by omega) (by omega)).v ?_
      simp only [go_sem, ↓reduceIte, Nat.reduceEqDiff, Nat.reduceAdd, Nat.reduceSub, Nat.reduceMul, Nat.reduceLT, Nat.reduceLeDiff, Int.reduceLE, Int.reduceLT, Int.reduceAdd, Int.reduceSub, Int.reduceMul, Int.reduceEq, Int.reduceBEq, Int.reduceBNe, Int.reduceNeg, Int.reduceToNat, reduceCtorEq]
      refine ⟨fun e3 => ?_, fun e3 => ⟨(by unfold I64; omega), ?_⟩⟩
      · rw [hno (decide_eq_false (by omega))]
      · simpa [bayC] using ih (decide_eq_true (by omega))
  · refine lp_step hmix L37_0_g [1, 2, 5] L37_0.eq_1 ?_
    have m1 : ¬ (l.length : Int) < l.length := by omega
    simp only [go_sem, m1, ln, ↓reduceIte, Nat.reduceEqDiff, Nat.reduceAdd, Nat.reduceSub, Nat.reduceMul, Nat.reduceLT, Nat.reduceLeDiff, Int.reduceLE, Int.reduceLT, Int.reduceAdd, Int.reduceSub, Int.reduceMul, Int.reduceEq, Int.reduceBEq, Int.reduceBNe, Int.reduceNeg, Int.reduceToNat, reduceCtorEq]
    have : provesB b l = true := List.all_eq_true.2 fun i hi => hall i (List.mem_range.1 hi)
    rw [this]
end Go.Proofs.Ab

namespace Go.Proofs.Ab
open Go Go.Proofs
variable {w0 : World} {h : Heap}
attribute [local irreducible] ACall ACallV AYield DCall DCallV rvC rdC lp rg dr ex un rv rd'

def D39 : List MIx := [
   .op (some 23) none (.mov (.t 6)), 
   .op (some 24) none (.load (.t 3) (some 2)), 
   .op (some 25) none (.mov (.t 6)), 
   .call (some 26) none (.k (.fn (.func 73) [] [])) [(.t 25)], 
   .call (some 27) none (.k (.fn (.func 87) [] [])) [(.t 23), (.t 24), (.t 26)], 
   .op (some 7) none (.mov (.t 27))]
def B39 : List (List Nat) := [[], [], [], [2], [0, 1, 3, 2], [4, 0, 1, 3, 2]]
def nf39 : SF := ⟨31, [(.t 4), (.t 5)],
(.seq (.reg [
   .op (some 2) none (.box (.t 0) 6), 
   .op (some 3) none (.box (.t 1) 2), 
   .op (some 4) none (.mov (.k (.int .i64 0))), 
   .op (some 5) none (.mov (.k (.int .i64 0)))])
(.seq 
(.seq (.reg [
   .op (some 8) none (.load (.t 2) (some 6)), 
   .call (some 9) none (.k (.fn (.func 64) [] [])) [(.t 8)], 
   .op (some 10) none (.un .not (.t 9)), 
   .op (some 11) none (.mov (.t 10)), 
   .op (some 12) (some (11, false)) (.load (.t 3) (some 2)), 
   .op (some 13) (some (11, false)) (.addr (.t 2) 2), 
   .op (some 14) (some (11, false)) (.load (.t 13) none), 
   .op (some 15) (some (11, false)) (.len (.t 14)), 
   .op (some 16) (some (11, false)) (.bin .sub (.t 15) (.k (.int .i64 1))), 
   .call (some 17) (some (11, false)) (.k (.fn (.func 90) [] [])) [(.t 12), (.k (.int .i64 0)), (.t 16)], 
   .op (some 18) (some (11, false)) (.un .not (.t 17)), 
   .op (some 19) none (.pick (.t 11) (.k (.bool true)) (.t 18))])
 (.cond (.t 19) 
(.seq (.reg [
   .op (some 4) none (.mov (.k (.int .i64 0))), 
   .op (some 5) none (.mov (.k (.int .i64 2)))])
 .ret)
 .skip))
(.seq (.reg [
   .op (some 20) none (.load (.t 2) (some 6)), 
   .op (some 21) none (.build [.nilS, .nilS, .nilS, .nilS, (.int .i64 0), .nilS] [(0, 6, (.t 20))]), 
   .op (some 22) none (.box (.t 21) 6), 
   .op (some 6) none (.mov (.t 22))])
(.seq 
(.seq (.draw [] D39 B39)
(.seq (.reg [
   .op (some 28) none (.mov (.t 7)), 
   .op (some 29) none (.bin .geq (.t 28) (.k (.int .i64 0)))])
 (.cond (.t 29) 
(.seq (.reg [
   .op (some 30) none (.mov (.t 7)), 
   .op (some 4) none (.mov (.t 30)), 
   .op (some 5) none (.mov (.k (.int .i64 0)))])
 .ret)
 .skip)))
(.seq (.reg [
   .op (some 4) none (.mov (.k (.int .i64 0))), 
   .op (some 5) none (.mov (.k (.int .i64 5)))])
 .ret)))))⟩
theorem nf39_ok : cfun Try.prog 39 = some nf39.er := mf39_ok
theorem nf39_g : nf39.body.good = true := by kernel_rfl

def NeededV (b : BayD) (sp : Span) : AV :=
  if bayB b && spanB sp 0 (b.days.length - 1) then (if 0 ≤ neededD b sp then .tup [.int .i64 (neededD b sp), .int .i64 0] else .tup [.int .i64 0, .int .i64 5])
  else .tup [.int .i64 0, .int .i64 2]

theorem Needed_c (b : BayD) (v : BayV) (sp : Span) (hR : BayR w0 h b v) : DCall Try.prog w0 39 [.agg (bayC b v), .agg sp.c] h (NeededV b sp) h := by
  refine DCall_quiet hmix nf39_ok mf39_b nf39_g (Nat.le_of_ble_eq_true rfl) (by unfold NeededV; split <;> (try split) <;> simp [AV.bdd, AV.bdds]) fun hb ha => ex_in ?_
  have o1 := hR.kinds.one
  have o2 := hR.slots.one
  have o3 := hR.days.one
  have o4 := hR.nights.one
  have o5 := hR.defs.one
  have l1 := hR.slots.use.1
  have l2 := hR.days.use.1
  have l3 := hR.len
  simp only [List.length_map] at l1 l2
  simp only [go_sem, nf39, o1.1, o2.1, o3.1, o4.1, o5.1, ↓reduceIte, Nat.reduceEqDiff, Nat.reduceAdd, Nat.reduceSub, Nat.reduceMul, Nat.reduceLT, Nat.reduceLeDiff, Int.reduceLE, Int.reduceLT, Int.reduceAdd, Int.reduceSub, Int.reduceMul, Int.reduceEq, Int.reduceBEq, Int.reduceBNe, Int.reduceNeg, Int.reduceToNat, reduceCtorEq]
  refine rvC_use (bay_c b v hR.app).v ?_
  simp only [go_sem, l2, ↓reduceIte, Nat.reduceEqDiff, Nat.reduceAdd, Nat.reduceSub, Nat.reduceMul, Nat.reduceLT, Nat.reduceLeDiff, Int.reduceLE, Int.reduceLT, Int.reduceAdd, Int.reduceSub, Int.reduceMul, Int.reduceEq, Int.reduceBEq, Int.reduceBNe, Int.reduceNeg, Int.reduceToNat, reduceCtorEq]
  refine ⟨fun e1 => ⟨(by unfold I64; omega), ?_⟩, fun e1 => by rw [NeededV, e1]; rfl⟩
  have bs := bayB_spec e1
  refine rvC_use (span_c sp _ _).v ?_
  simp only [go_sem, o1.1, o2.1, o3.1, o4.1, o5.1, ↓reduceIte, Nat.reduceEqDiff, Nat.reduceAdd, Nat.reduceSub, Nat.reduceMul, Nat.reduceLT, Nat.reduceLeDiff, Int.reduceLE, Int.reduceLT, Int.reduceAdd, Int.reduceSub, Int.reduceMul, Int.reduceEq, Int.reduceBEq, Int.reduceBNe, Int.reduceNeg, Int.reduceToNat, reduceCtorEq]
  refine ⟨fun e2 => by rw [NeededV, e1, e2]; rfl, fun e2 => ?_⟩
  have f2 := e2
  simp only [spanB, inB, Bool.and_eq_true, decide_eq_true_eq] at f2
  have eN : NeededV b sp = if 0 ≤ neededD b sp then .tup [.int .i64 (neededD b sp), .int .i64 0] else .tup [.int .i64 0, .int .i64 5] := by
    rw [NeededV, e1, e2, Bool.and_self, if_pos rfl]
  rw [eN]
  generalize eH3 : h ++ [some (Blk.row [v.kv, v.sv, v.dv, v.nv, AV.int IntKind.i64 b.most, v.fv]), some (Blk.row [AV.int IntKind.i64 sp.low, AV.int IntKind.i64 sp.high]), some (Blk.row [v.kv, v.sv, v.dv, v.nv, AV.int IntKind.i64 b.most, v.fv])] = H3
  have c3 : H3.length = h.length + 3 := by rw [← eH3]; simp
  have g1 : H3[h.length + 1]? = some (some (.row sp.c)) := by rw [← eH3, List.getElem?_append_right (by omega)]; simp [Span.c]
  have g2 : H3[h.length + 2]? = some (some (.row (bayC b v))) := by rw [← eH3, List.getElem?_append_right (by omega)]; simp [bayC]
  have hR3 : BayR w0 H3 b v := by rw [← eH3]; exact hR.app
  have hT := until_LL (w0 := w0) (h := H3) b e1
  have hu := until_c (w0 := w0) (h := H3) b v g2 hR3 e1
  generalize (untilT b).map (fun l => some (Blk.row (ints l))) ++ [some (.row (outS H3.length b.slots.length (b.days.length + 1)))] = L at hT hu
  generalize AV.sl (.own (H3.length + b.slots.length) 0) b.slots.length 1 false = tv at hT hu
  have hn := needed_c (w0 := w0) (h := H3 ++ L) b v sp tv (i := h.length + 2) (by rw [List.getElem?_append_left (by omega)]; exact g2) hR3.app e1 hT (by omega) (by omega) (by omega)
  unfold dr
  refine EvM_lay hmix [.ptr (.own (h.length + 2) 0), .agg sp.c, .ptr (.own (h.length + 2) 0), tv, .int .i64 (neededD b sp), .int .i64 (neededD b sp)] 3 L (Nat.lt_of_sub_ne_zero (by simp [D39])) (fun i h1 h2 => ?_) (fun i x hx => ?_) ?_
  · simp only [D39, List.length_cons, List.length_nil] at h2
    rcases i with _ | _ | _ | _ | _ | _ | i
    all_goals first | omega | rfl
  · rcases i with _ | _ | _ | _ | _ | _ | i
    all_goals
      simp only [D39, List.getElem?_cons_zero, List.getElem?_cons_succ, Option.some.injEq, List.getElem?_nil, reduceCtorEq] at hx
    all_goals subst hx
    · exact ⟨_, _, rfl, rfl, rfl⟩
    · have g1' := g1
      refine ⟨.agg sp.c, H3, ?_, rfl, rfl⟩
      show aop w0 (MOp.load (Opd.t 3) (some 2)) _ H3 = _
      simp only [frT, dstAt, D39, List.getElem?_cons_zero, Option.bind_some, MIx.dst, List.getD_cons_zero]
      simp only [go_sem, g1, ↓reduceIte, Nat.reduceEqDiff, Nat.reduceAdd, Nat.reduceSub, Nat.reduceMul, Nat.reduceLT, Nat.reduceLeDiff, Int.reduceLE, Int.reduceLT, Int.reduceAdd, Int.reduceSub, Int.reduceMul, Int.reduceEq, Int.reduceBEq, Int.reduceBNe, Int.reduceNeg, Int.reduceToNat, reduceCtorEq]
    · exact ⟨_, _, rfl, rfl, rfl⟩
    · exact opV_call hu.v
    · exact opV_call hn.v
    · exact ⟨_, _, rfl, rfl, rfl⟩
  · refine unw_of ?_
    simp only [D39, List.length_cons, List.length_nil, frT, dstAt, List.getElem?_cons_zero, List.getElem?_cons_succ, Option.bind_some, MIx.dst, List.getD_cons_zero, List.getD_cons_succ]
    simp only [go_sem, ↓reduceIte, Nat.reduceEqDiff, Nat.reduceAdd, Nat.reduceSub, Nat.reduceMul, Nat.reduceLT, Nat.reduceLeDiff, Int.reduceLE, Int.reduceLT, Int.reduceAdd, Int.reduceSub, Int.reduceMul, Int.reduceEq, Int.reduceBEq, Int.reduceBNe, Int.reduceNeg, Int.reduceToNat, reduceCtorEq]
    have hf : H3 ++ L = h ++ (H3.drop h.length ++ L) := by rw [← eH3]; simp
    rw [hf]
    refine ⟨fun e => ?_, fun e => ?_⟩
    · rw [if_pos e]; simp only [go_sem, ↓reduceIte, Nat.reduceEqDiff, Nat.reduceAdd, Nat.reduceSub, Nat.reduceMul, Nat.reduceLT, Nat.reduceLeDiff, Int.reduceLE, Int.reduceLT, Int.reduceAdd, Int.reduceSub, Int.reduceMul, Int.reduceEq, Int.reduceBEq, Int.reduceBNe, Int.reduceNeg, Int.reduceToNat, reduceCtorEq]
    · rw [if_neg e]; simp only [go_sem, ↓reduceIte, Nat.reduceEqDiff, Nat.reduceAdd, Nat.reduceSub, Nat.reduceMul, Nat.reduceLT, Nat.reduceLeDiff, Int.reduceLE, Int.reduceLT, Int.reduceAdd, Int.reduceSub, Int.reduceMul, Int.reduceEq, Int.reduceBEq, Int.reduceBNe, Int.reduceNeg, Int.reduceToNat, reduceCtorEq]
end Go.Proofs.Ab

namespace Go.Proofs.Ab
open Go Go.Proofs
variable {w0 : World} {h : Heap}
attribute [local irreducible] ACall ACallV AYield DCall DCallV rvC rdC lp rg dr ex un rv rd'

def rdown (b : BayD) (t : List (List Span)) (low K : Nat) : Nat → List Span
  | 0 => t.headD []
  | j + 1 => if 0 ≤ neededD b ⟨low, (low : Int) + (K - 1 - j : Nat)⟩ then (if (rdown b t low K j).length ≤ (t.getD (K - 1 - j) []).length + 1 then ⟨low, (low : Int) + (K - 1 - j : Nat)⟩ :: t.getD (K - 1 - j) [] else rdown b t low K j) else rdown b t low K j

def isBest (b : BayD) (t : List (List Span)) (low i k : Nat) (r : List Span) : Prop :=
  (r = t.headD [] ∧ ∀ q, i ≤ q → q < k → 0 ≤ neededD b ⟨low, (low : Int) + q⟩ → (t.getD q []).length + 1 < (t.headD []).length) ∨
  (∃ q, i ≤ q ∧ q < k ∧ 0 ≤ neededD b ⟨low, (low : Int) + q⟩ ∧ r = ⟨low, (low : Int) + q⟩ :: t.getD q [] ∧ (t.headD []).length ≤ (t.getD q []).length + 1 ∧
    ∀ p, i ≤ p → p < k → 0 ≤ neededD b ⟨low, (low : Int) + p⟩ → (t.getD p []).length ≤ (t.getD q []).length ∧ (p < q → (t.getD p []).length < (t.getD q []).length))
theorem best_one {b : BayD} {t : List (List Span)} {low i k : Nat} {r s : List Span} (h1 : isBest b t low i k r) (h2 : isBest b t low i k s) : r = s := by
  rcases h1 with ⟨e1, g1⟩ | ⟨q, q1, q2, q3, q4, q5, q6⟩ <;> rcases h2 with ⟨e2, g2⟩ | ⟨p, p1, p2, p3, p4, p5, p6⟩
  · rw [e1, e2]
  · have := g1 p p1 p2 p3; omega
  · have := g2 q q1 q2 q3; omega
  · have a := q6 p p1 p2 p3
    have c := p6 q q1 q2 q3
    have : p = q := by
      rcases Nat.lt_trichotomy p q with e | e | e
      · have := a.2 e; omega
      · exact e
      · have := c.2 e; omega
    subst this
    rw [q4, p4]
theorem down_best {b : BayD} {t : List (List Span)} {low K : Nat} : ∀ j, j ≤ K → isBest b t low (K - j) K (rdown b t low K j)
  | 0, _ => .inl ⟨rfl, fun q h1 h2 => by omega⟩
  | j + 1, hj => by
    have ih := down_best (b := b) (t := t) (low := low) (K := K) j (by omega)
    obtain ⟨q0, e0⟩ : ∃ q0, q0 = K - 1 - j := ⟨_, rfl⟩
    have e1 : K - (j + 1) = q0 := by omega
    have e2 : K - j = q0 + 1 := by omega
    simp only [rdown, ← e0]
    rw [e1]; rw [e2] at ih
    split
    · rename_i hn
      split
      · rename_i hl
        refine .inr ⟨q0, Nat.le_refl _, by omega, hn, rfl, ?_, fun p p1 p2 p3 => ⟨?_, fun h => by omega⟩⟩
        · rcases ih with ⟨r1, r2⟩ | ⟨q, _, _, _, r1, r2, _⟩
          · rw [r1] at hl; exact hl
          · rw [r1] at hl; simp only [List.length_cons] at hl; omega
        · rcases Nat.eq_or_lt_of_le p1 with e | e
          · subst e; exact Nat.le_refl _
          · rcases ih with ⟨r1, r2⟩ | ⟨q, _, _, _, r1, r2, r3⟩
            · have := r2 p e p2 p3; rw [r1] at hl; omega
            · have := r3 p e p2 p3; rw [r1] at hl; simp only [List.length_cons] at hl; omega
      · rename_i hl
        rcases ih with ⟨r1, r2⟩ | ⟨q, s1, s2, s3, r1, r2, r3⟩
        · refine .inl ⟨r1, fun p p1 p2 p3 => ?_⟩
          rcases Nat.eq_or_lt_of_le p1 with e | e
          · subst e; rw [r1] at hl; omega
          · exact r2 p e p2 p3
        · refine .inr ⟨q, by omega, s2, s3, r1, r2, fun p p1 p2 p3 => ?_⟩
          rcases Nat.eq_or_lt_of_le p1 with e | e
          · subst e; rw [r1] at hl; simp only [List.length_cons] at hl; omega
          · exact r3 p e p2 p3
    · rename_i hn
      rcases ih with ⟨r1, r2⟩ | ⟨q, s1, s2, s3, r1, r2, r3⟩
      · refine .inl ⟨r1, fun p p1 p2 p3 => ?_⟩
        rcases Nat.eq_or_lt_of_le p1 with e | e
        · subst e; exact absurd p3 hn
        · exact r2 p e p2 p3
      · refine .inr ⟨q, by omega, s2, s3, r1, r2, fun p p1 p2 p3 => ?_⟩
        rcases Nat.eq_or_lt_of_le p1 with e | e
        · subst e; exact absurd p3 hn
        · exact r3 p e p2 p3
theorem bet_eq (cur new : List Span) (h : cur.length ≠ new.length) : bet cur new = if cur.length < new.length then new else cur := by
  have : new.length ≠ cur.length := fun e => h e.symm
  simp [bet, earlierL, this]
theorem row_best {b : BayD} {t : List (List Span)} {low : Nat} (hh : ∀ s l, t.headD [] = s :: l → (low : Int) < s.low) : ∀ k, isBest b t low 0 k (rowP b t low k)
  | 0 => .inl ⟨rfl, fun q h1 h2 => by omega⟩
  | k + 1 => by
    have ih := row_best (b := b) hh k
    simp only [rowP]
    split
    · rename_i hn
      rcases ih with ⟨r1, r2⟩ | ⟨q, s1, s2, s3, r1, r2, r3⟩
      · by_cases hl : (t.headD []).length ≤ (t.getD k []).length + 1
        · have hb : bet (rowP b t low k) (⟨low, (low : Int) + k⟩ :: t.getD k []) = ⟨low, (low : Int) + k⟩ :: t.getD k [] := by
            rw [r1]
            by_cases e : (t.headD []).length = (t.getD k []).length + 1
            · rw [bet, if_pos]
              cases hq : t.headD [] with
              | nil => rw [hq] at e; simp at e
              | cons s l =>
                have := hh s l hq
                rw [hq, List.length_cons] at e
                have h1 : ((low : Int) ≠ s.low) := by omega
                simp only [earlierL, List.length_cons, cmpL, cmpS]
                rw [if_neg (by omega)]
                simp only [if_pos h1]
                rw [if_pos (by omega)]
                simp; omega
            · rw [bet_eq _ _ (by simpa using e), if_pos (by simp only [List.length_cons]; omega)]
          rw [hb]
          refine .inr ⟨k, by omega, by omega, hn, rfl, hl, fun p p1 p2 p3 => ?_⟩
          rcases Nat.lt_or_ge p k with e | e
          · have := r2 p p1 e p3; omega
          · have : p = k := by omega
            subst this; omega
        · have hb : bet (rowP b t low k) (⟨low, (low : Int) + k⟩ :: t.getD k []) = t.headD [] := by
            rw [r1, bet_eq _ _ (by simp only [List.length_cons]; omega), if_neg (by simp only [List.length_cons]; omega)]
          rw [hb]
          refine .inl ⟨rfl, fun p p1 p2 p3 => ?_⟩
          rcases Nat.lt_or_ge p k with e | e
          · exact r2 p p1 e p3
          · have : p = k := by omega
            subst this; omega
      · by_cases hl : (t.getD q []).length < (t.getD k []).length
        · have hb : bet (rowP b t low k) (⟨low, (low : Int) + k⟩ :: t.getD k []) = ⟨low, (low : Int) + k⟩ :: t.getD k [] := by
            rw [r1, bet_eq _ _ (by simp only [List.length_cons]; omega), if_pos (by simp only [List.length_cons]; omega)]
          rw [hb]
          refine .inr ⟨k, by omega, by omega, hn, rfl, by omega, fun p p1 p2 p3 => ?_⟩
          rcases Nat.lt_or_ge p k with e | e
          · have := r3 p p1 e p3; omega
          · have : p = k := by omega
            subst this; omega
        · have hb : bet (rowP b t low k) (⟨low, (low : Int) + k⟩ :: t.getD k []) = ⟨low, (low : Int) + q⟩ :: t.getD q [] := by
            rw [r1]
            by_cases e : (t.getD q []).length = (t.getD k []).length
            · rw [bet, if_neg]
              have h1 : ¬ ((low : Int) + k - ((low : Int) + q) = 0) := by omega
              simp only [earlierL, List.length_cons, cmpL, cmpS]
              rw [if_neg (by omega)]
              simp [h1]; omega
            · rw [bet_eq _ _ (by simp only [List.length_cons]; omega), if_neg (by simp only [List.length_cons]; omega)]
          rw [hb]
          refine .inr ⟨q, s1, by omega, s3, rfl, r2, fun p p1 p2 p3 => ?_⟩
          rcases Nat.lt_or_ge p k with e | e
          · exact r3 p p1 e p3
          · have : p = k := by omega
            subst this; omega
    · rename_i hn
      rcases ih with ⟨r1, r2⟩ | ⟨q, s1, s2, s3, r1, r2, r3⟩
      · refine .inl ⟨r1, fun p p1 p2 p3 => ?_⟩
        rcases Nat.lt_or_ge p k with e | e
        · exact r2 p p1 e p3
        · have : p = k := by omega
          subst this; exact absurd p3 hn
      · refine .inr ⟨q, s1, by omega, s3, r1, r2, fun p p1 p2 p3 => ?_⟩
        rcases Nat.lt_or_ge p k with e | e
        · exact r3 p p1 e p3
        · have : p = k := by omega
          subst this; exact absurd p3 hn
theorem down_row {b : BayD} {t : List (List Span)} {low K : Nat} (hh : ∀ s l, t.headD [] = s :: l → (low : Int) < s.low) : rdown b t low K K = rowP b t low K := by
  have := down_best (b := b) (t := t) (low := low) (K := K) K (Nat.le_refl _)
  rw [Nat.sub_self] at this
  exact best_one this (row_best hh K)
end Go.Proofs.Ab

namespace Go.Proofs.Ab
open Go Go.Proofs
variable {w0 : World} {h : Heap}
attribute [local irreducible] ACall ACallV AYield DCall DCallV rvC rdC lp rg dr ex un rv rd'

def O91_0n : List OD := [⟨1, [], [], []⟩, ⟨3, [], [], [0]⟩, ⟨0, [], [0], []⟩, ⟨0, [], [0], []⟩, ⟨0, [], [0], []⟩, ⟨0, [], [0], []⟩, ⟨1, [0], [0], []⟩, ⟨1, [], [], []⟩, ⟨0, [], [], []⟩]
theorem O91_0n_ok : gdOk 0 O91_0n D91_0 B91_0 = true := by kernel_rfl
theorem O91_0n_ok2 : gdOk2 O91_0n D91_0 B91_0 = true := by kernel_rfl

structure TInv (w0 : World) (h : Heap) (b : BayD) (v : BayV) (ir n lo : Nat) (f : Nat → List Span) (row : List AV) : Prop where
  br : h[ir]? = some (some (.row row))
  len : row.length = n + 1
  rB : BayR w0 (h.set ir none) b v
  ls : ∀ k, lo ≤ k → k ≤ n → ∃ x, row[k]? = some x ∧ Sl w0 (h.set ir none) 2 x ((f k).map Span.c) ∧ (f k = [] → x = .nilS)

theorem rtail_c (b : BayD) (v : BayV) (t : List (List Span)) (low ir : Nat) (row : List AV) (hB : bayB b = true) (hlow : low < b.days.length) (I : TInv w0 h b v ir b.days.length (low + 1) (fun k => t.getD (k - (low + 1)) []) row)
    (htl : t.length = b.days.length - low) (htok : ∀ (j : Nat) l, t[j]? = some l → okP b.days.length (low + 1 + j) l) :
    ACall Try.prog w0 91 [.agg (bayC b v), .sl (.own ir 0) (b.days.length + 1) 1 true, .int .i64 low] h fun y h' => ∃ L, h' = h ++ L ∧ Sl w0 (h.set ir none ++ L) 2 y ((rowP b t low (b.days.length - low)).map Span.c) ∧ (rowP b t low (b.days.length - low) = [] → y = .nilS) := by
  refine ACall_sx hmix mf91_ok mf91_b mf91_g (Nat.le_of_ble_eq_true rfl) fun hb ha => ex_in ?_
  have bs := bayB_spec hB
  have hir := get_lt I.br
  have hRh : BayR w0 h b v := I.rB.sub HSub.msk
  have o1 := hRh.kinds.one
  have o2 := hRh.slots.one
  have o3 := hRh.days.one
  have o4 := hRh.nights.one
  have o5 := hRh.defs.one
  have l2 := hRh.days.use.1
  simp only [List.length_map] at l2
  have c2 : asNat (.int .i64 ((low : Int) + 1)) = some (low + 1) := by rw [show (low : Int) + 1 = ((low + 1 : Nat) : Int) by omega]; exact asNat_n
  obtain ⟨x0, x1, x2, x3⟩ := I.ls (low + 1) (Nat.le_refl _) (by omega)
  have c3 : ∀ L, (h ++ L)[ir]? = some (some (.row row)) := fun L => getElem?_app_left I.br
  have c4 := I.len
  simp only [go_sem, mf91, o1.1, o2.1, o3.1, o4.1, o5.1, c2, c3, x1, c4, l2, Nat.mul_one, ↓reduceIte, Nat.reduceEqDiff, Nat.reduceAdd, Nat.reduceSub, Nat.reduceMul, Nat.reduceLT, Nat.reduceLeDiff, Int.reduceLE, Int.reduceLT, Int.reduceAdd, Int.reduceSub, Int.reduceMul, Int.reduceEq, Int.reduceBEq, Int.reduceBNe, Int.reduceNeg, Int.reduceToNat, reduceCtorEq]
  refine ⟨(by unfold I64; omega), by omega, (by unfold I64; omega), ?_⟩
  obtain ⟨K, eK⟩ : ∃ K, K = b.days.length - low := ⟨_, rfl⟩
  have hhd : t.headD [] = t.getD 0 [] := by cases t <;> rfl
  have hdown : rdown b t low K K = rowP b t low K := down_row fun s l e => by
    have h0 : t[0]? = some (s :: l) := by
      cases t with
      | nil => simp at htl; omega
      | cons a r => simp at e; simp [e]
    have := (htok 0 _ h0).1 s (by simp); omega
  rw [← eK]
  refine lp_ind (S := Nat × Heap × AV) (F := fun s => [(1, .sl (.own ir 0) (b.days.length + 1) 1 true), (2, .int .i64 low), (3, .ptr (.own h.length 0)), (7, s.2.2), (8, .int .i64 ((b.days.length : Int) - 1 - s.1))])
    (H := fun s => s.2.1) (meas := fun s => K - s.1)
    (Inv := fun s => s.1 ≤ K ∧ (∃ N, s.2.1 = h ++ N) ∧ s.2.1[h.length]? = some (some (.row (bayC b v))) ∧ Sl w0 (s.2.1.set ir none) 2 s.2.2 ((rdown b t low K s.1).map Span.c) ∧ (rdown b t low K s.1 = [] → s.2.2 = .nilS))
    (0, _, x0) ⟨Nat.zero_le _, ⟨_, rfl⟩, by simp [bayC], ?_, ?_⟩ (by simp) rfl ?_
  · rw [set_app_lt hir]
    simp only [rdown]; rw [hhd]
    simpa using x2.app
  · simp only [rdown]; rw [hhd]
    simpa using x3
  rintro ⟨j, H, cv⟩ ⟨hj, ⟨N, hN⟩, hbx, hcv, hcn⟩ ih
  simp only at hj hN hbx hcv hcn ih
  have hirH : ir < H.length := by rw [hN, List.length_append]; omega
  have hlH : h.length ≤ H.length := by rw [hN, List.length_append]; omega
  have hset : H.set ir none = h.set ir none ++ N := by rw [hN, set_app_lt hir]
  have b1 : ∀ L, (H ++ L)[h.length]? = some (some (.row (bayC b v))) := fun L => getElem?_app_left hbx
  have b3 : ∀ L, (H ++ L)[ir]? = some (some (.row row)) := fun L => getElem?_app_left (by rw [hN]; exact c3 N)
  have b3' := b3 []
  rw [List.append_nil] at b3'
  have hR1 : BayR w0 H b v := by rw [hN]; exact hRh.app
  refine lp_step hmix L91_0_g [1, 2, 3, 7, 8] L91_0.eq_1 ?_
  by_cases hjk : j < K
  · obtain ⟨q, eq⟩ : ∃ q, q = K - 1 - j := ⟨_, rfl⟩
    have c0 : (b.days.length : Int) - 1 - j = (low : Int) + q := by omega
    have m1 : (low : Int) ≤ (low : Int) + q := by omega
    have d2 : asNat (.int .i64 ((low : Int) + q + 1)) = some (low + (q + 1)) := by rw [show (low : Int) + q + 1 = ((low + (q + 1) : Nat) : Int) by omega]; exact asNat_n
    obtain ⟨y0, y1, yM, y3⟩ := I.ls (low + (q + 1)) (by omega) (by omega)
    have hf1 : low + (q + 1) - (low + 1) = q := by omega
    simp only [hf1] at yM y3
    have hnext : ((b.days.length : Int) - 1 - ((j + 1 : Nat) : Int)) = (low : Int) + q - 1 := by omega
    have hnew : rdown b t low K (j + 1) = if 0 ≤ neededD b ⟨low, (low : Int) + q⟩ then (if (rdown b t low K j).length ≤ (t.getD q []).length + 1 then ⟨low, (low : Int) + q⟩ :: t.getD q [] else rdown b t low K j) else rdown b t low K j := by
      rw [eq]; rfl
    have yH : Sl w0 (H.set ir none) 2 y0 ((t.getD q []).map Span.c) := by rw [hset]; exact yM.app
    have goal_ : ∀ (L : Heap) x, Sl w0 (H.set ir none ++ L) 2 x ((rdown b t low K (j + 1)).map Span.c) → (rdown b t low K (j + 1) = [] → x = .nilS) → _ := fun L x g1 g2 => ih (j + 1, H ++ L, x) ⟨by simp only; omega, ⟨N ++ L, by simp only; rw [hN, List.append_assoc]⟩, getElem?_app_left hbx, by simp only; rw [set_app_lt hirH]; exact g1, g2⟩ (by simp only; omega)
    simp only [hnext] at goal_
    have ln := hcv.use.1
    have ly := yM.use.1
    simp only [List.length_map] at ln ly
    rw [c0]
    simp only [go_sem, m1, b1, b3, b3', hbx, ↓reduceIte, Nat.reduceEqDiff, Nat.reduceAdd, Nat.reduceSub, Nat.reduceMul, Nat.reduceLT, Nat.reduceLeDiff, Int.reduceLE, Int.reduceLT, Int.reduceAdd, Int.reduceSub, Int.reduceMul, Int.reduceEq, Int.reduceBEq, Int.reduceBNe, Int.reduceNeg, Int.reduceToNat, reduceCtorEq]
    refine rvC_use (rneeded_c b v ⟨low, (low : Int) + q⟩ hR1.app hB (by simp) (by simp; omega) (by simp; omega)).v ?_
    simp only [go_sem, b1, b3, b3', hbx, ↓reduceIte, Nat.reduceEqDiff, Nat.reduceAdd, Nat.reduceSub, Nat.reduceMul, Nat.reduceLT, Nat.reduceLeDiff, Int.reduceLE, Int.reduceLT, Int.reduceAdd, Int.reduceSub, Int.reduceMul, Int.reduceEq, Int.reduceBEq, Int.reduceBNe, Int.reduceNeg, Int.reduceToNat, reduceCtorEq]
    have gq : t.getD q [] = t[q]'(by omega) := getD_at (by omega)
    have oky : okP b.days.length (low + 1 + q) (t.getD q []) := by rw [gq]; exact htok q _ (List.getElem?_eq_getElem (by omega))
    have hyl := oky.2
    refine ⟨fun e => ⟨(by unfold I64; omega), ?_⟩, fun e => ?_⟩
    · have hn : ¬ 0 ≤ neededD b ⟨low, (low : Int) + q⟩ := by omega
      rw [if_neg hn] at hnew
      rw [hnew] at goal_
      exact goal_ _ _ hcv.app hcn
    · rw [if_pos (by omega)] at hnew
      have hbl : (H.set ir none).length = H.length := by simp
      by_cases hnil : t.getD q [] = []
      · obtain rfl := y3 hnil
        refine dr_use hmix O91_0n [] D91_0.eq_1 O91_0n_ok O91_0n_ok2 List.nodup_nil (by simp) ?_
        simp only [go_sem, O91_0n, b3, b3', y1, d2, c4, Nat.mul_one, ln, ↓reduceIte, Nat.reduceEqDiff, Nat.reduceAdd, Nat.reduceSub, Nat.reduceMul, Nat.reduceLT, Nat.reduceLeDiff, Int.reduceLE, Int.reduceLT, Int.reduceAdd, Int.reduceSub, Int.reduceMul, Int.reduceEq, Int.reduceBEq, Int.reduceBNe, Int.reduceNeg, Int.reduceToNat, reduceCtorEq]
        have hB : Sl w0 (H.set ir none ++ [some (.row [.int .i64 low, .int .i64 ((low : Int) + q)]), some (.row [.int .i64 low, .int .i64 ((low : Int) + q)])]) 2 (.sl (.own (H.length + 1) 0) 1 2 true) ([(⟨low, (low : Int) + q⟩ : Span)].map Span.c) := by
          rw [← hbl]; exact Sl_lit [(⟨low, (low : Int) + q⟩ : Span).c] true 1 (by simp [Span.c]) (by simp [Span.c])
        rw [hnil] at hnew
        refine ⟨by omega, (by unfold I64; omega), by omega, by omega, fun e2 => ⟨(by unfold I64; omega), ?_⟩, fun e2 => ⟨(by unfold I64; omega), ?_⟩⟩
        · rw [if_pos (by simp; omega)] at hnew
          exact goal_ _ _ (by rw [hnew]; exact hB) (by rw [hnew]; intro e; cases e)
        · rw [if_neg (by simp; omega)] at hnew
          exact goal_ _ _ (by rw [hnew]; exact hcv.app) (by rw [hnew]; exact hcn)
      · obtain ⟨rr, er⟩ : ∃ rr : List AV, rr = (((⟨low, (low : Int) + q⟩ : Span) :: t.getD q []).map Span.c).flatten := ⟨_, rfl⟩
        have eA : appA w0 (H ++ [some (.row [.int .i64 low, .int .i64 ((low : Int) + q)]), some (.row [.int .i64 low, .int .i64 ((low : Int) + q)])]) 2 16 (.sl (.own (H.length + 1) 0) 1 2 true) y0 =
            some (.sl (.own (H.length + 2) 0) ((t.getD q []).length + 1) 2 false, H ++ [some (.row [.int .i64 low, .int .i64 ((low : Int) + q)]), some (.row [.int .i64 low, .int .i64 ((low : Int) + q)]), some (.row rr)]) := by
          have := app_full (w0 := w0) (H := H ++ [some (.row [.int .i64 low, .int .i64 ((low : Int) + q)]), some (.row [.int .i64 low, .int .i64 ((low : Int) + q)])]) (es := 2) (b := 16) (n := 1) (old := [.int .i64 low, .int .i64 ((low : Int) + q)]) (p := .own (H.length + 1) 0) (yH.sub HSub.msk).app
            (by simpa using hnil) (by simp [Span.c, one]) (by simp only [go_sem, Nat.one_mul, ↓reduceIte, Nat.reduceEqDiff, Nat.reduceAdd, Nat.reduceSub, Nat.reduceMul, Nat.reduceLT, Nat.reduceLeDiff, Int.reduceLE, Int.reduceLT, Int.reduceAdd, Int.reduceSub, Int.reduceMul, Int.reduceEq, Int.reduceBEq, Int.reduceBNe, Int.reduceNeg, Int.reduceToNat, reduceCtorEq]) (by omega) (by rw [List.length_map]; omega)
          rw [this, er]
          simp [Nat.add_comm 1, Span.c]
        refine dr_use hmix O91_0 [] D91_0.eq_1 O91_0_ok O91_0_ok2 List.nodup_nil (by simp) ?_
        simp only [go_sem, O91_0, b3, b3', y1, d2, c4, Nat.mul_one, ln, eA, ↓reduceIte, Nat.reduceEqDiff, Nat.reduceAdd, Nat.reduceSub, Nat.reduceMul, Nat.reduceLT, Nat.reduceLeDiff, Int.reduceLE, Int.reduceLT, Int.reduceAdd, Int.reduceSub, Int.reduceMul, Int.reduceEq, Int.reduceBEq, Int.reduceBNe, Int.reduceNeg, Int.reduceToNat, reduceCtorEq]
        have hB : Sl w0 (H.set ir none ++ [some (.row [.int .i64 low, .int .i64 ((low : Int) + q)]), some (.row [.int .i64 low, .int .i64 ((low : Int) + q)]), some (.row rr)]) 2 (.sl (.own (H.length + 2) 0) ((t.getD q []).length + 1) 2 false) (((⟨low, (low : Int) + q⟩ : Span) :: t.getD q []).map Span.c) := by
          have := Sl_lit (w0 := w0) (h := H.set ir none) (((⟨low, (low : Int) + q⟩ : Span) :: t.getD q []).map Span.c) (es := 2) false (L := [some (.row [.int .i64 low, .int .i64 ((low : Int) + q)]), some (.row [.int .i64 low, .int .i64 ((low : Int) + q)]), some (.row rr)]) 2 (by rw [er]; rfl) (by simp [Span.c])
          rw [hbl, List.length_map, List.length_cons] at this
          exact this
        refine ⟨by omega, (by unfold I64; omega), by omega, by omega, av_bdd (N := H.length) ((yH.sub HSub.msk).bdd (Nat.le_refl _)) (by simp), fun e2 => ⟨(by unfold I64; omega), ?_⟩, fun e2 => ⟨(by unfold I64; omega), ?_⟩⟩
        · rw [if_pos (by omega)] at hnew
          exact goal_ _ _ (by rw [hnew]; exact hB) (by rw [hnew]; intro e; cases e)
        · rw [if_neg (by omega)] at hnew
          exact goal_ _ _ (by rw [hnew]; exact hcv.app) (by rw [hnew]; exact hcn)
  · have hjK : j = K := by omega
    subst hjK
    have c0 : (b.days.length : Int) - 1 - j = (low : Int) - 1 := by omega
    have m1 : ¬ (low : Int) ≤ (low : Int) - 1 := by omega
    rw [c0]
    simp only [go_sem, m1, ↓reduceIte, Nat.reduceEqDiff, Nat.reduceAdd, Nat.reduceSub, Nat.reduceMul, Nat.reduceLT, Nat.reduceLeDiff, Int.reduceLE, Int.reduceLT, Int.reduceAdd, Int.reduceSub, Int.reduceMul, Int.reduceEq, Int.reduceBEq, Int.reduceBNe, Int.reduceNeg, Int.reduceToNat, reduceCtorEq]
    exact ⟨N, hN, by rw [← hset, ← hdown]; exact hcv, by rw [← hdown]; exact hcn⟩
end Go.Proofs.Ab

namespace Go.Proofs.Ab
open Go Go.Proofs
variable {w0 : World} {h : Heap}
attribute [local irreducible] ACall ACallV AYield DCall DCallV rvC rdC lp rg dr ex un rv rd'

theorem rproof_c (b : BayD) (v : BayV) (hR : BayR w0 h b v) (hB : bayB b = true) :
    ACall Try.prog w0 41 [.agg (bayC b v)] h fun y h' => (∃ L, h' = h ++ L) ∧ Sl w0 h' 2 y ((proofD b).map Span.c) := by
  refine ACall_sx hmix mf41_ok mf41_b mf41_g (Nat.le_of_ble_eq_true rfl) fun hb ha => ex_in ?_
  have bs := bayB_spec hB
  have o1 := hR.kinds.one
  have o2 := hR.slots.one
  have o3 := hR.days.one
  have o4 := hR.nights.one
  have o5 := hR.defs.one
  have l2 := hR.days.use.1
  simp only [List.length_map] at l2
  have t1 : (if (0 : Int) ≤ b.days.length + 1 then some ((b.days.length : Int) + 1).toNat else none) = some (b.days.length + 1) := by
    rw [if_pos (by omega)]; rfl
  simp only [go_sem, mf41, o1.1, o2.1, o3.1, o4.1, o5.1, l2, t1, ↓reduceIte, Nat.reduceEqDiff, Nat.reduceAdd, Nat.reduceSub, Nat.reduceMul, Nat.reduceLT, Nat.reduceLeDiff, Int.reduceLE, Int.reduceLT, Int.reduceAdd, Int.reduceSub, Int.reduceMul, Int.reduceEq, Int.reduceBEq, Int.reduceBNe, Int.reduceNeg, Int.reduceToNat, reduceCtorEq]
  refine ⟨(by unfold I64; omega), ⟨Nat.le_refl _, by omega⟩, (by unfold I64; omega), ?_⟩
  have hrow : AV.nilS :: reps [AV.nilS] b.days.length = List.replicate (b.days.length + 1) .nilS := by
    rw [List.replicate_succ, reps_1]
  refine lp_ind (S := Nat × Heap × List AV) (F := fun s => [(1, .ptr (.own h.length 0)), (3, .sl (.own (h.length + 1) 0) (b.days.length + 1) 1 true), (4, .int .i64 ((b.days.length : Int) - 1 - s.1))])
    (H := fun s => s.2.1) (meas := fun s => b.days.length - s.1)
    (Inv := fun s => s.1 ≤ b.days.length ∧ (∃ N, s.2.1 = h ++ N) ∧ s.2.1[h.length]? = some (some (.row (bayC b v))) ∧ TInv w0 s.2.1 b v (h.length + 1) b.days.length (b.days.length - s.1) (fun k => (tblP b b.days.length s.1).getD (k - (b.days.length - s.1)) []) s.2.2)
    (0, _, List.replicate (b.days.length + 1) .nilS) ⟨Nat.zero_le _, ⟨_, rfl⟩, by simp [bayC], ?_⟩ (by simp) rfl ?_
  · rw [hrow]
    have hset : (h ++ [some (Blk.row [v.kv, v.sv, v.dv, v.nv, .int .i64 b.most, v.fv]), some (Blk.row (List.replicate (b.days.length + 1) AV.nilS))]).set (h.length + 1) none = h ++ [some (Blk.row [v.kv, v.sv, v.dv, v.nv, .int .i64 b.most, v.fv]), none] := by
      rw [List.set_append_right _ _ (by omega)]; simp
    refine ⟨by rw [List.getElem?_append_right (by omega)]; simp, by simp, by simp only; rw [hset]; exact hR.app, fun k h1 h2 => ?_⟩
    obtain rfl : k = b.days.length := by simp at h1; omega
    exact ⟨.nilS, by simp, by simp [tblP]; exact .inl ⟨rfl, rfl⟩, fun _ => rfl⟩
  rintro ⟨m, H, row⟩ ⟨hm, ⟨N, hN⟩, hbx, I⟩ ih
  simp only at hm hN hbx I ih
  have b1 : ∀ L, (H ++ L)[h.length]? = some (some (.row (bayC b v))) := fun L => getElem?_app_left hbx
  have hir := get_lt I.br
  have c4 := I.len
  refine lp_step hmix L41_0_g [1, 3, 4] L41_0.eq_1 ?_
  by_cases hmn : m < b.days.length
  · obtain ⟨low, elow⟩ : ∃ low, low = b.days.length - 1 - m := ⟨_, rfl⟩
    have c0 : (b.days.length : Int) - 1 - m = low := by omega
    have c1 : (0 : Int) ≤ low := by omega
    obtain ⟨t, et⟩ : ∃ t, t = tblP b b.days.length m := ⟨_, rfl⟩
    have htl : t.length = m + 1 := by rw [et, tblP_len]
    have htok : ∀ (j : Nat) l, t[j]? = some l → okP b.days.length (low + 1 + j) l := fun j l hj => by
      have := tblP_ok b b.days.length m (by omega) j l (et ▸ hj)
      rwa [show b.days.length - m = low + 1 by omega] at this
    rw [← et, show b.days.length - m = low + 1 by omega] at I
    rw [c0]
    simp only [go_sem, c1, hbx, b1, ↓reduceIte, Nat.reduceEqDiff, Nat.reduceAdd, Nat.reduceSub, Nat.reduceMul, Nat.reduceLT, Nat.reduceLeDiff, Int.reduceLE, Int.reduceLT, Int.reduceAdd, Int.reduceSub, Int.reduceMul, Int.reduceEq, Int.reduceBEq, Int.reduceBNe, Int.reduceNeg, Int.reduceToNat, reduceCtorEq]
    refine rvC_post (ACall.vc (first := []) (args := [.agg (bayC b v), .sl (.own (h.length + 1) 0) (b.days.length + 1) 1 true, .int .i64 low]) (rtail_c b v t low (h.length + 1) row hB (by omega) I (by omega) htok)) ?_
    rintro y H1 ⟨L, rfl, hy, hyn⟩
    have c3 : ∀ M, ((H ++ L) ++ M)[h.length + 1]? = some (some (.row row)) := fun M => getElem?_app_left (getElem?_app_left I.br)
    have c3' := c3 []
    rw [List.append_nil] at c3'
    have yo := hy.one.2
    simp only [go_sem, c3, c3', c4, Nat.mul_one, yo, ↓reduceIte, Nat.reduceEqDiff, Nat.reduceAdd, Nat.reduceSub, Nat.reduceMul, Nat.reduceLT, Nat.reduceLeDiff, Int.reduceLE, Int.reduceLT, Int.reduceAdd, Int.reduceSub, Int.reduceMul, Int.reduceEq, Int.reduceBEq, Int.reduceBNe, Int.reduceNeg, Int.reduceToNat, reduceCtorEq]
    refine ⟨by omega, by omega, (by unfold I64; omega), ?_⟩
    have c7 : row.take low ++ y :: row.drop (low + 1) = row.set low y := by rw [List.set_eq_take_append_cons_drop, if_pos (by omega)]
    have hrow2 : tblP b b.days.length (m + 1) = rowP b t low (b.days.length - low) :: t := by
      rw [et, elow]; simp only [tblP]; rw [show b.days.length - (b.days.length - 1 - m) = m + 1 by omega]
    have hs : (H ++ L).set (h.length + 1) none = H.set (h.length + 1) none ++ L := set_app_lt hir
    have hirL : h.length + 1 < (H ++ L).length := by rw [List.length_append]; omega
    rw [c7]
    have goal_ := ih (m + 1, (H ++ L).set (h.length + 1) (some (.row (row.set low y))), row.set low y) ⟨by simp only; omega, ⟨(N ++ L).set 1 (some (.row (row.set low y))), ?_⟩, ?_, ?_⟩ (by simp only; omega)
    · simp only at goal_
      rw [show (b.days.length : Int) - 1 - ((m + 1 : Nat) : Int) = (low : Int) - 1 by omega] at goal_
      exact goal_
    · simp only
      rw [hN, List.append_assoc, List.set_append_right _ _ (by omega), show h.length + 1 - h.length = 1 by omega]
    · simp only
      rw [List.getElem?_set_ne (by omega)]; exact getElem?_app_left hbx
    · refine ⟨by simp only; rw [List.getElem?_set_self hirL], by simp [c4], by simp only [List.set_set]; rw [hs]; exact I.rB.app, fun k h1 h2 => ?_⟩
      simp only [List.set_set, hs]
      by_cases e : k = low
      · subst e
        refine ⟨y, by rw [List.getElem?_set_self (by omega)], ?_, ?_⟩
        · rw [hrow2, show k - (b.days.length - (m + 1)) = 0 by omega]; exact hy
        · rw [hrow2, show k - (b.days.length - (m + 1)) = 0 by omega]; exact hyn
      · obtain ⟨z, z1, z2, z3⟩ := I.ls k (by omega) h2
        have hk : k - (b.days.length - (m + 1)) = (k - (low + 1)) + 1 := by omega
        refine ⟨z, by rw [List.getElem?_set_ne (Ne.symm e)]; exact z1, ?_, ?_⟩
        · rw [hrow2, hk, List.getD_cons_succ]; exact z2.app
        · rw [hrow2, hk, List.getD_cons_succ]; exact z3
  · have hmE : m = b.days.length := by omega
    subst hmE
    have m1 : ¬ (0 : Int) ≤ (b.days.length : Int) - 1 - b.days.length := by omega
    obtain ⟨z, z1, z2, z3⟩ := I.ls 0 (by omega) (by omega)
    have c3 : ∀ M, (H ++ M)[h.length + 1]? = some (some (.row row)) := fun M => getElem?_app_left I.br
    have c3' := I.br
    simp only [go_sem, m1, c3, c3', z1, c4, Nat.mul_one, ↓reduceIte, Nat.reduceEqDiff, Nat.reduceAdd, Nat.reduceSub, Nat.reduceMul, Nat.reduceLT, Nat.reduceLeDiff, Int.reduceLE, Int.reduceLT, Int.reduceAdd, Int.reduceSub, Int.reduceMul, Int.reduceEq, Int.reduceBEq, Int.reduceBNe, Int.reduceNeg, Int.reduceToNat, reduceCtorEq]
    refine ⟨by omega, ⟨N, hN⟩, ?_⟩
    have hd : proofD b = (tblP b b.days.length b.days.length).getD 0 [] := by
      rw [proofD]; cases tblP b b.days.length b.days.length <;> rfl
    simp only [Nat.sub_self] at z2
    rw [hd]
    exact z2.sub HSub.msk
end Go.Proofs.Ab

namespace Go.Proofs.Ab
open Go Go.Proofs
variable {w0 : World} {h : Heap}
attribute [local irreducible] ACall ACallV AYield DCall DCallV rvC rdC lp rg dr ex un rv rd'

set_option maxHeartbeats 4000000 in
theorem WearProofs_c (b : BayD) (v : BayV) (sp : Span) (hS : BayS w0 h b v) : DCall Try.prog w0 9 [.agg (bayC b v), .agg sp.c] h (.bool true) h := by
  refine DCall_forget trivial (ACall_sx hmix mf9_ok mf9_b mf9_g (Nat.le_of_ble_eq_true rfl) fun hb ha => ex_in ?_)
  have o1 := hS.kinds.one.1
  have o2 := hS.slots.one.1
  have o3 := hS.days.one.1
  have o4 := hS.nights.one.1
  have o5 := hS.defs.one.1
  have fin : ∀ L, HSub h (h ++ L) := fun L => HSub.refl.app
  simp only [go_sem, mf9, o1, o2, o3, o4, o5, ↓reduceIte, Nat.reduceEqDiff, Nat.reduceAdd, Nat.reduceSub, Nat.reduceMul, Nat.reduceLT, Nat.reduceLeDiff, Int.reduceLE, Int.reduceLT, Int.reduceAdd, Int.reduceSub, Int.reduceMul, Int.reduceEq, Int.reduceBEq, Int.reduceBNe, Int.reduceNeg, Int.reduceToNat, reduceCtorEq]
  refine rvC_use (small_c b v 5 12 hS.app).v ?_
  simp only [go_sem, ↓reduceIte, Nat.reduceEqDiff, Nat.reduceAdd, Nat.reduceSub, Nat.reduceMul, Nat.reduceLT, Nat.reduceLeDiff, Int.reduceLE, Int.reduceLT, Int.reduceAdd, Int.reduceSub, Int.reduceMul, Int.reduceEq, Int.reduceBEq, Int.reduceBNe, Int.reduceNeg, Int.reduceToNat, reduceCtorEq]
  refine ⟨fun e1 => ?_, fun e1 => ?_⟩
  · refine rvC_use known_c.v ?_
    simp only [go_sem, ↓reduceIte, Nat.reduceEqDiff, Nat.reduceAdd, Nat.reduceSub, Nat.reduceMul, Nat.reduceLT, Nat.reduceLeDiff, Int.reduceLE, Int.reduceLT, Int.reduceAdd, Int.reduceSub, Int.reduceMul, Int.reduceEq, Int.reduceBEq, Int.reduceBNe, Int.reduceNeg, Int.reduceToNat, reduceCtorEq]
    exact fin _
  have hsh : shortB b = true := by simp only [smallB, Bool.and_eq_true] at e1; exact e1.1
  have hR := hS.R hsh
  have l2 := hR.days.use.1
  simp only [List.length_map] at l2
  refine rvC_use (Needed_c b v sp hR.app).v ?_
  generalize eH0 : h ++ [some (Blk.row [v.kv, v.sv, v.dv, v.nv, AV.int IntKind.i64 b.most, v.fv]), some (Blk.row [AV.int IntKind.i64 sp.low, AV.int IntKind.i64 sp.high])] = H0
  have hs0 : HSub h H0 := by rw [← eH0]; exact HSub.refl.app
  have hR0 := hR.sub hs0
  have g1 : H0[h.length]? = some (some (.row (bayC b v))) := by rw [← eH0, List.getElem?_append_right (Nat.le_refl _)]; simp [bayC]
  have g2 : H0[h.length + 1]? = some (some (.row sp.c)) := by rw [← eH0, List.getElem?_append_right (by omega)]; simp [Span.c]
  by_cases eb : bayB b = true
  · have bs := bayB_spec eb
    obtain ⟨nv, ne, eN⟩ : ∃ nv ne : Int, NeededV b sp = .tup [.int .i64 nv, .int .i64 ne] := by
      unfold NeededV; split <;> (try split) <;> exact ⟨_, _, rfl⟩
    have eN' := eN
    rw [eN]
    simp only [go_sem, g1, ↓reduceIte, Nat.reduceEqDiff, Nat.reduceAdd, Nat.reduceSub, Nat.reduceMul, Nat.reduceLT, Nat.reduceLeDiff, Int.reduceLE, Int.reduceLT, Int.reduceAdd, Int.reduceSub, Int.reduceMul, Int.reduceEq, Int.reduceBEq, Int.reduceBNe, Int.reduceNeg, Int.reduceToNat, reduceCtorEq]
    refine rvC_post (ACall.vc (first := []) (args := [.agg (bayC b v)]) (Proof_c b v hR0)) ?_
    rintro y H1 (⟨hx, _⟩ | ⟨_, x, rfl, hx, L1, eH1⟩)
    · rw [eb] at hx; cases hx
    have hs1 : HSub H0 H1 := by rw [eH1]; exact HSub.refl.app
    have hR1 := hR0.sub hs1
    have f1 : ∀ L, (H1 ++ L)[h.length]? = some (some (.row (bayC b v))) := fun L => getElem?_app_left (hs1.2 _ _ g1)
    have f1' := hs1.2 _ _ g1
    simp only [go_sem, f1', ↓reduceIte, Nat.reduceEqDiff, Nat.reduceAdd, Nat.reduceSub, Nat.reduceMul, Nat.reduceLT, Nat.reduceLeDiff, Int.reduceLE, Int.reduceLT, Int.reduceAdd, Int.reduceSub, Int.reduceMul, Int.reduceEq, Int.reduceBEq, Int.reduceBNe, Int.reduceNeg, Int.reduceToNat, reduceCtorEq]
    refine rvC_use (rbay_c b v hR1).v ?_
    rw [eb]
    simp only [go_sem, f1', ↓reduceIte, Nat.reduceEqDiff, Nat.reduceAdd, Nat.reduceSub, Nat.reduceMul, Nat.reduceLT, Nat.reduceLeDiff, Int.reduceLE, Int.reduceLT, Int.reduceAdd, Int.reduceSub, Int.reduceMul, Int.reduceEq, Int.reduceBEq, Int.reduceBNe, Int.reduceNeg, Int.reduceToNat, reduceCtorEq]
    refine rvC_post (ACall.vc (first := []) (args := [.agg (bayC b v)]) (rproof_c b v hR1 eb)) ?_
    rintro z H2 ⟨⟨L2, eH2⟩, hz⟩
    have hs2 : HSub H1 H2 := by rw [eH2]; exact HSub.refl.app
    have hR2 := hR1.sub hs2
    have f2 := hs2.2 _ _ f1'
    have f3 := hs2.2 _ _ (hs1.2 _ _ g2)
    have hpl : (proofD b).length < 1000000 := by
      have := (tblP_ok b b.days.length b.days.length (Nat.le_refl _) 0 _ (List.getElem?_eq_getElem (by rw [tblP_len]; omega))).2
      have e : proofD b = (tblP b b.days.length b.days.length)[0]'(by rw [tblP_len]; omega) := by
        rw [proofD, List.headD_eq_head?_getD, List.head?_eq_getElem?, List.getElem?_eq_getElem (by rw [tblP_len]; omega)]; rfl
      rw [e]; omega
    simp only [go_sem, ↓reduceIte, Nat.reduceEqDiff, Nat.reduceAdd, Nat.reduceSub, Nat.reduceMul, Nat.reduceLT, Nat.reduceLeDiff, Int.reduceLE, Int.reduceLT, Int.reduceAdd, Int.reduceSub, Int.reduceMul, Int.reduceEq, Int.reduceBEq, Int.reduceBNe, Int.reduceNeg, Int.reduceToNat, reduceCtorEq]
    refine rvC_use (sameSpans_c (proofD b) (proofD b) x z (hx.sub hs2) hz hpl).v ?_
    have hsF : HSub h H2 := (hs0.trans hs1).trans hs2
    by_cases es : spanB sp 0 (b.days.length - 1) = true
    · have q := es
      simp only [spanB, Bool.and_eq_true, decide_eq_true_eq] at q
      have m1 : ¬ sp.low < 0 := by omega
      have m2 : ¬ sp.high < sp.low := by omega
      have m3 : ¬ (b.days.length : Int) ≤ sp.high := by omega
      simp only [go_sem, f2, f3, l2, decide_true, m1, m2, m3, ↓reduceIte, Nat.reduceEqDiff, Nat.reduceAdd, Nat.reduceSub, Nat.reduceMul, Nat.reduceLT, Nat.reduceLeDiff, Int.reduceLE, Int.reduceLT, Int.reduceAdd, Int.reduceSub, Int.reduceMul, Int.reduceEq, Int.reduceBEq, Int.reduceBNe, Int.reduceNeg, Int.reduceToNat, reduceCtorEq]
      refine rvC_use (rneeded_c b v sp hR2 eb (by omega) (by omega) (by omega)).v ?_
      by_cases en : 0 ≤ neededD b sp
      · have m4 : ¬ neededD b sp < 0 := by omega
        rw [NeededV, eb, es, Bool.and_self, if_pos rfl, if_pos en] at eN'
        simp only [AV.tup.injEq, List.cons.injEq, AV.int.injEq, true_and, and_true] at eN'
        obtain ⟨e3, e4⟩ := eN'
        subst e4
        rw [← e3]
        simp only [go_sem, m4, ↓reduceIte, Nat.reduceEqDiff, Nat.reduceAdd, Nat.reduceSub, Nat.reduceMul, Nat.reduceLT, Nat.reduceLeDiff, Int.reduceLE, Int.reduceLT, Int.reduceAdd, Int.reduceSub, Int.reduceMul, Int.reduceEq, Int.reduceBEq, Int.reduceBNe, Int.reduceNeg, Int.reduceToNat, reduceCtorEq]
        refine rvC_use known_c.v ?_
        simp only [go_sem, ↓reduceIte, Nat.reduceEqDiff, Nat.reduceAdd, Nat.reduceSub, Nat.reduceMul, Nat.reduceLT, Nat.reduceLeDiff, Int.reduceLE, Int.reduceLT, Int.reduceAdd, Int.reduceSub, Int.reduceMul, Int.reduceEq, Int.reduceBEq, Int.reduceBNe, Int.reduceNeg, Int.reduceToNat, reduceCtorEq]
        exact hsF
      · have m4 : neededD b sp < 0 := by omega
        rw [NeededV, eb, es, Bool.and_self, if_pos rfl, if_neg en] at eN'
        simp only [AV.tup.injEq, List.cons.injEq, AV.int.injEq, true_and, and_true] at eN'
        obtain ⟨e3, e4⟩ := eN'
        subst e3; subst e4
        simp only [go_sem, m4, ↓reduceIte, Nat.reduceEqDiff, Nat.reduceAdd, Nat.reduceSub, Nat.reduceMul, Nat.reduceLT, Nat.reduceLeDiff, Int.reduceLE, Int.reduceLT, Int.reduceAdd, Int.reduceSub, Int.reduceMul, Int.reduceEq, Int.reduceBEq, Int.reduceBNe, Int.reduceNeg, Int.reduceToNat, reduceCtorEq]
        refine rvC_use known_c.v ?_
        simp only [go_sem, ↓reduceIte, Nat.reduceEqDiff, Nat.reduceAdd, Nat.reduceSub, Nat.reduceMul, Nat.reduceLT, Nat.reduceLeDiff, Int.reduceLE, Int.reduceLT, Int.reduceAdd, Int.reduceSub, Int.reduceMul, Int.reduceEq, Int.reduceBEq, Int.reduceBNe, Int.reduceNeg, Int.reduceToNat, reduceCtorEq]
        exact hsF
    · rw [NeededV, if_neg (by simp [es])] at eN'
      simp only [AV.tup.injEq, List.cons.injEq, AV.int.injEq, true_and, and_true] at eN'
      obtain ⟨e3, e4⟩ := eN'
      subst e3; subst e4
      simp only [spanB, Bool.and_eq_true, decide_eq_true_eq] at es
      simp only [go_sem, f2, f3, l2, decide_true, ↓reduceIte, Nat.reduceEqDiff, Nat.reduceAdd, Nat.reduceSub, Nat.reduceMul, Nat.reduceLT, Nat.reduceLeDiff, Int.reduceLE, Int.reduceLT, Int.reduceAdd, Int.reduceSub, Int.reduceMul, Int.reduceEq, Int.reduceBEq, Int.reduceBNe, Int.reduceNeg, Int.reduceToNat, reduceCtorEq]
      repeat' first
        | omega
        | (refine And.intro ?_ ?_)
        | (intro _)
        | (refine rvC_use known_c.v ?_; simp only [go_sem, ↓reduceIte, Nat.reduceEqDiff, Nat.reduceAdd, Nat.reduceSub, Nat.reduceMul, Nat.reduceLT, Nat.reduceLeDiff, Int.reduceLE, Int.reduceLT, Int.reduceAdd, Int.reduceSub, Int.reduceMul, Int.reduceEq, Int.reduceBEq, Int.reduceBNe, Int.reduceNeg, Int.reduceToNat, reduceCtorEq]; exact hsF)
  · have eN : NeededV b sp = .tup [.int .i64 0, .int .i64 2] := by
      rw [NeededV, if_neg]; simp [eb]
    rw [eN]
    simp only [go_sem, g1, ↓reduceIte, Nat.reduceEqDiff, Nat.reduceAdd, Nat.reduceSub, Nat.reduceMul, Nat.reduceLT, Nat.reduceLeDiff, Int.reduceLE, Int.reduceLT, Int.reduceAdd, Int.reduceSub, Int.reduceMul, Int.reduceEq, Int.reduceBEq, Int.reduceBNe, Int.reduceNeg, Int.reduceToNat, reduceCtorEq]
    refine rvC_post (ACall.vc (first := []) (args := [.agg (bayC b v)]) (Proof_c b v hR0)) ?_
    rintro y H1 (⟨_, rfl, L1, rfl⟩ | ⟨hx, _⟩)
    rotate_left
    · exact absurd hx eb
    have g1' : (H0 ++ L1)[h.length]? = some (some (.row (bayC b v))) := getElem?_app_left g1
    simp only [go_sem, g1', g1, ↓reduceIte, Nat.reduceEqDiff, Nat.reduceAdd, Nat.reduceSub, Nat.reduceMul, Nat.reduceLT, Nat.reduceLeDiff, Int.reduceLE, Int.reduceLT, Int.reduceAdd, Int.reduceSub, Int.reduceMul, Int.reduceEq, Int.reduceBEq, Int.reduceBNe, Int.reduceNeg, Int.reduceToNat, reduceCtorEq]
    refine rvC_use (rbay_c b v hR0.app).v ?_
    have eb' : bayB b = false := by simpa using eb
    rw [eb']
    simp only [go_sem, ↓reduceIte, Nat.reduceEqDiff, Nat.reduceAdd, Nat.reduceSub, Nat.reduceMul, Nat.reduceLT, Nat.reduceLeDiff, Int.reduceLE, Int.reduceLT, Int.reduceAdd, Int.reduceSub, Int.reduceMul, Int.reduceEq, Int.reduceBEq, Int.reduceBNe, Int.reduceNeg, Int.reduceToNat, reduceCtorEq]
    refine rvC_use known_c.v ?_
    simp only [go_sem, ↓reduceIte, Nat.reduceEqDiff, Nat.reduceAdd, Nat.reduceSub, Nat.reduceMul, Nat.reduceLT, Nat.reduceLeDiff, Int.reduceLE, Int.reduceLT, Int.reduceAdd, Int.reduceSub, Int.reduceMul, Int.reduceEq, Int.reduceBEq, Int.reduceBNe, Int.reduceNeg, Int.reduceToNat, reduceCtorEq]
    exact hs0.app
end Go.Proofs.Ab

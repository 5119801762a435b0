/- The own layer under the proofs of this seat, part R: what calls of the program come to on an abstract heap. No condition. -/
import Derived.Test.YtammfjjepbekaaaY
import Derived.Test.YtammfjjepbekaaaZ
import Derived.Test.YtammfjjepbekaaaT
set_option linter.unusedSimpArgs false
set_option linter.unusedVariables false
namespace Go.Proofs.Ab
open Go Go.Proofs
variable {w0 : World} {h : Heap}
attribute [local irreducible] ACall ACallV AYield DCall DCallV rvC rdC lp rg dr ex un rv rd'

theorem rneeded_c (b : BayD) (v : BayV) (sp : Span) (hR : BayR w0 h b v) (hB : bayB b = true) (h1 : 0 ≤ sp.low) (h2 : sp.low ≤ sp.high) (h3 : sp.high < b.days.length) :
    DCall Try.prog w0 42 [.agg (bayC b v), .agg sp.c] h (.int .i64 (neededD b sp)) h := by
  refine DCall_quiet hmix mf42_ok mf42_b mf42_g (Nat.le_of_ble_eq_true rfl) (by simp [AV.bdd, AV.bdds]) fun hb ha => ex_in ?_
  have bs := bayB_spec hB
  have o1 := hR.kinds.one.1
  have o2 := hR.slots.one.1
  have o3 := hR.days.one.1
  have o4 := hR.nights.one.1
  have o5 := hR.defs.one.1
  have l1 := hR.slots.use.1
  have l2 := hR.days.use.1
  obtain ⟨l3, fp, f2, f3, _⟩ := hR.defs.use
  simp only [List.length_map] at l1 l2 l3 f2
  simp only [go_sem, mf42, o1, o2, o3, o4, o5, ↓reduceIte, Nat.reduceEqDiff, Nat.reduceAdd, Nat.reduceSub, Nat.reduceMul, Nat.reduceLT, Nat.reduceLeDiff, Int.reduceLE, Int.reduceLT, Int.reduceAdd, Int.reduceSub, Int.reduceMul, Int.reduceEq, Int.reduceBEq, Int.reduceBNe, Int.reduceNeg, Int.reduceToNat, reduceCtorEq]
  refine lp_all (fun j => [(2, .ptr (.own h.length 0)), (3, .ptr (.own (h.length + 1) 0)), (5, .int .i64 j)]) (fun j => slotNeeds b sp j = false) b.slots.length rfl (fun j hj hall ih => ?_) (fun hall => ?_)
  · refine lp_step hmix L42_1_g [2, 3, 5] L42_1.eq_1 ?_
    have m1 : (j : Int) < b.slots.length := by omega
    have hyes : slotNeeds b sp j = true → neededD b sp = j := fun e => idxOf_at (j := j) (by simpa using hj) (fun i hi hi2 => by simpa using hall i hi) (by simpa using e)
    simp only [go_sem, m1, l1, ↓reduceIte, Nat.reduceEqDiff, Nat.reduceAdd, Nat.reduceSub, Nat.reduceMul, Nat.reduceLT, Nat.reduceLeDiff, Int.reduceLE, Int.reduceLT, Int.reduceAdd, Int.reduceSub, Int.reduceMul, Int.reduceEq, Int.reduceBEq, Int.reduceBNe, Int.reduceNeg, Int.reduceToNat, reduceCtorEq]
    refine ⟨(by unfold I64; omega), ?_⟩
    refine rvC_use (rlasts_c b v j (sp.low - 1) hR.app hB hj (by omega) (by omega)).v ?_
    simp only [go_sem, l2, ↓reduceIte, Nat.reduceEqDiff, Nat.reduceAdd, Nat.reduceSub, Nat.reduceMul, Nat.reduceLT, Nat.reduceLeDiff, Int.reduceLE, Int.reduceLT, Int.reduceAdd, Int.reduceSub, Int.reduceMul, Int.reduceEq, Int.reduceBEq, Int.reduceBNe, Int.reduceNeg, Int.reduceToNat, reduceCtorEq]
    refine ⟨(by unfold I64; omega), ?_⟩
    have hdefs : (decide (sp.high + 1 < b.days.length) && decide (lastsD Span.high b j (sp.low - 1) < sp.high + 1)) = false → lp Try.prog w0 none 74 h.length (quietK w0 [RV.t 4] h (AV.int IntKind.i64 (neededD b sp))) L42_0
        [.inBlk 2, .inBlk 1, .code (.reg [.op (some 15) none (.mov (.t 5)), .op (some 16) none (.bin .add (.t 15) (.k (.int .i64 1))), .op (some 5) none (.mov (.t 16))]), .inLoop [2, 3, 5] L42_1, .inBlk 0, .code (.seq (.reg [.op (some 4) none (.mov (.k (.int .i64 (-1))))]) .ret)]
        [(2, .ptr (.own h.length 0)), (3, .ptr (.own (h.length + 1) 0)), (5, .int .i64 j), (8, .int .i64 0)] (h ++ [some (.row (bayC b v)), some (.row sp.c)]) := fun e0 => by
      refine lp_all (fun i => [(2, .ptr (.own h.length 0)), (3, .ptr (.own (h.length + 1) 0)), (5, .int .i64 j), (8, .int .i64 i)]) (fun i => ∀ hi : i < b.defs.length, defIn sp j b.defs[i] = false) b.defs.length rfl (fun i hi hall2 ih2 => ?_) (fun hall2 => ?_)
      · refine lp_step hmix L42_0_g [2, 3, 5, 8] L42_0.eq_1 ?_
        have m2 : (i : Int) < b.defs.length := by omega
        have q1 := f2 i hi
        obtain ⟨d, ed⟩ : ∃ d, d = b.defs[i] := ⟨_, rfl⟩
        have q2 : ∀ L, rdn w0 (h ++ L) (fp.add (i * 3)) 3 = some d.c := fun L => rdn_app (f3 i _ (by simp [hi, ed]))
        have hy2 : defIn sp j d = true → neededD b sp = j := fun e => hyes (by
          simp only [slotNeeds, Bool.or_eq_true, List.any_eq_true]
          exact .inr ⟨d, by rw [ed]; exact List.getElem_mem hi, e⟩)
        have ih2 : defIn sp j d = false → _ := fun e => ih2 fun _ => ed ▸ e
        have hdr := fun e => lp_drop (P := Try.prog) (w0 := w0) (r := none) (nt := 74) (Q := quietK w0 [RV.t 4] h (AV.int IntKind.i64 (neededD b sp))) (a := L42_0) (l := [some (.row (bayC b v)), some (.row sp.c), some (.row d.c)]) 2 hb (by simp [HBs_some, HBs_none, HBs_nil, FB_cons, FB_nil, row_bdd, AV.bdds, AV.bdd, Pl.bdd, loop_bddT, hR.kinds.bdd, hR.slots.bdd, hR.days.bdd, hR.nights.bdd, hR.defs.bdd, bayC]) (by simp [HBs_some, HBs_none, HBs_nil, FB_cons, FB_nil, row_bdd, AV.bdds, AV.bdd, Pl.bdd, loop_bddT]) (ih2 e)
        simp only [go_sem, m2, l3, q1, q2, ↓reduceIte, Nat.reduceEqDiff, Nat.reduceAdd, Nat.reduceSub, Nat.reduceMul, Nat.reduceLT, Nat.reduceLeDiff, Int.reduceLE, Int.reduceLT, Int.reduceAdd, Int.reduceSub, Int.reduceMul, Int.reduceEq, Int.reduceBEq, Int.reduceBNe, Int.reduceNeg, Int.reduceToNat, reduceCtorEq]
        refine ⟨fun e1 => ⟨fun e2 => ⟨fun e3 => ?_, fun e3 => ?_⟩, fun e2 => ?_⟩, fun e1 => ?_⟩
        · rw [hy2 (by simp [defIn, e1, e2, e3])]
        · have n1 : ¬ d.nights.high ≤ sp.high := by omega
          have n2 : defIn sp j d = false := by simp [defIn, n1]
          exact ⟨(by unfold I64; omega), by simpa [bayC, DefD.c, Span.c] using hdr n2⟩
        · have n1 : ¬ sp.low ≤ d.nights.low := by omega
          have n2 : defIn sp j d = false := by simp [defIn, n1]
          exact ⟨(by unfold I64; omega), by simpa [bayC, DefD.c, Span.c] using hdr n2⟩
        · have n2 : defIn sp j d = false := by simp [defIn, e1]
          exact ⟨(by unfold I64; omega), by simpa [bayC, DefD.c, Span.c] using hdr n2⟩
      · refine lp_step hmix L42_0_g [2, 3, 5, 8] L42_0.eq_1 ?_
        have m2 : ¬ (b.defs.length : Int) < b.defs.length := by omega
        simp only [go_sem, m2, l3, ↓reduceIte, Nat.reduceEqDiff, Nat.reduceAdd, Nat.reduceSub, Nat.reduceMul, Nat.reduceLT, Nat.reduceLeDiff, Int.reduceLE, Int.reduceLT, Int.reduceAdd, Int.reduceSub, Int.reduceMul, Int.reduceEq, Int.reduceBEq, Int.reduceBNe, Int.reduceNeg, Int.reduceToNat, reduceCtorEq]
        have hno : slotNeeds b sp j = false := by
          rw [slotNeeds, e0, Bool.false_or]
          exact List.any_eq_false.2 fun d hd => by
            obtain ⟨i, hi, rfl⟩ := List.getElem_of_mem hd
            simp [hall2 i hi hi]
        exact ⟨(by unfold I64; omega), by simpa [bayC, Span.c] using ih hno⟩
    refine ⟨fun e1 => ⟨(by unfold I64; omega), fun e2 => ?_, fun e2 => ?_⟩, fun e1 => ?_⟩
    · rw [hyes (by simp [slotNeeds, e1, e2])]
    · have n1 : ¬ lastsD Span.high b j (sp.low - 1) < sp.high + 1 := by omega
      simpa [bayC, Span.c] using hdefs (by simp [n1])
    · have n1 : ¬ sp.high + 1 < b.days.length := by omega
      simpa [bayC, Span.c] using hdefs (by simp [n1])
  · refine lp_step hmix L42_1_g [2, 3, 5] L42_1.eq_1 ?_
    have m1 : ¬ (b.slots.length : Int) < b.slots.length := by omega
    simp only [go_sem, m1, l1, ↓reduceIte, Nat.reduceEqDiff, Nat.reduceAdd, Nat.reduceSub, Nat.reduceMul, Nat.reduceLT, Nat.reduceLeDiff, Int.reduceLE, Int.reduceLT, Int.reduceAdd, Int.reduceSub, Int.reduceMul, Int.reduceEq, Int.reduceBEq, Int.reduceBNe, Int.reduceNeg, Int.reduceToNat, reduceCtorEq]
    rw [neededD, idxOf_none fun i hi => by simpa using hall i (by simpa using hi)]

def proveK (b : BayD) (l : List Span) (i : Nat) : Bool := spanB (l.getD i ⟨0, 0⟩) 0 (b.days.length - 1) && (!(decide (0 < i) && decide ((l.getD i ⟨0, 0⟩).low ≤ (l.getD (i - 1) ⟨0, 0⟩).high)) && decide (0 ≤ neededD b (l.getD i ⟨0, 0⟩)))
def provesB (b : BayD) (l : List Span) : Bool := (List.range l.length).all (proveK b l)

theorem rproves_c (b : BayD) (v : BayV) (l : List Span) (lv : AV) (hR : BayR w0 h b v) (hB : bayB b = true) (hl : Sl w0 h 2 lv (l.map Span.c)) (hn : l.length < 1000000) :
    DCall Try.prog w0 37 [.agg (bayC b v), lv] h (.bool (provesB b l)) h := by
  refine DCall_quiet hmix mf37_ok mf37_b mf37_g (Nat.le_of_ble_eq_true rfl) (by simp [AV.bdd, AV.bdds]) fun hb ha => ex_in ?_
  have bs := bayB_spec hB
  have o1 := hR.kinds.one.1
  have o2 := hR.slots.one.1
  have o3 := hR.days.one.1
  have o4 := hR.nights.one.1
  have o5 := hR.defs.one.1
  have l2 := hR.days.use.1
  obtain ⟨ln, lp', lx, lr, _⟩ := hl.use
  simp only [List.length_map] at l2 ln lx
  simp only [go_sem, mf37, o1, o2, o3, o4, o5, ↓reduceIte, Nat.reduceEqDiff, Nat.reduceAdd, Nat.reduceSub, Nat.reduceMul, Nat.reduceLT, Nat.reduceLeDiff, Int.reduceLE, Int.reduceLT, Int.reduceAdd, Int.reduceSub, Int.reduceMul, Int.reduceEq, Int.reduceBEq, Int.reduceBNe, Int.reduceNeg, Int.reduceToNat, reduceCtorEq]
  refine lp_all (fun j => [(1, lv), (2, .ptr (.own h.length 0)), (5, .int .i64 j)]) (fun j => proveK b l j = true) l.length rfl (fun j hj hall ih => ?_) (fun hall => ?_)
  · refine lp_step hmix L37_0_g [1, 2, 5] L37_0.eq_1 ?_
    have m1 : (j : Int) < l.length := by omega
    have i1 := lx j hj
    obtain ⟨s, es⟩ : ∃ s, s = l[j] := ⟨_, rfl⟩
    have i2 : ∀ L, rdn w0 (h ++ L) (lp'.add (j * 2)) 2 = some s.c := fun L => rdn_app (lr j _ (by simp [hj, es]))
    have i3 : ∀ L, rd w0 (h ++ L) ((lp'.add (j * 2)).add 0) = some (.int .i64 s.low) := fun L => rd_get (i2 L) rfl
    have gs : l.getD j ⟨0, 0⟩ = s := by rw [getD_at hj, es]
    have hno : proveK b l j = false → provesB b l = false := fun e => List.all_eq_false.2 ⟨j, List.mem_range.2 hj, by simp [e]⟩
    simp only [proveK, gs] at hno ih
    simp only [go_sem, m1, ln, i1, i2, l2, ↓reduceIte, Nat.reduceEqDiff, Nat.reduceAdd, Nat.reduceSub, Nat.reduceMul, Nat.reduceLT, Nat.reduceLeDiff, Int.reduceLE, Int.reduceLT, Int.reduceAdd, Int.reduceSub, Int.reduceMul, Int.reduceEq, Int.reduceBEq, Int.reduceBNe, Int.reduceNeg, Int.reduceToNat, reduceCtorEq]
    refine ⟨(by unfold I64; omega), ?_⟩
    refine rdC_q (rspan_c s _).v ?_
    cases e1 : spanB s 0 (b.days.length - 1) with
    | false =>
      simp only [go_sem, ↓reduceIte, Nat.reduceEqDiff, Nat.reduceAdd, Nat.reduceSub, Nat.reduceMul, Nat.reduceLT, Nat.reduceLeDiff, Int.reduceLE, Int.reduceLT, Int.reduceAdd, Int.reduceSub, Int.reduceMul, Int.reduceEq, Int.reduceBEq, Int.reduceBNe, Int.reduceNeg, Int.reduceToNat, reduceCtorEq]
      rw [hno (by rw [e1]; rfl)]
    | true =>
    rw [e1] at hno ih
    simp only [Bool.true_and] at hno ih
    have q1 := e1
    simp only [spanB, Bool.and_eq_true, decide_eq_true_eq] at q1
    by_cases h0 : 0 < j
    · have m2 : (0 : Int) < j := by omega
      have i4 := lx (j - 1) (by omega)
      have i5 : (if (0 : Int) ≤ (j : Int) - 1 then some ((j : Int) - 1).toNat else none) = some (j - 1) := by
        rw [if_pos (by omega)]; congr 1; omega
      obtain ⟨r, er⟩ : ∃ r, r = l[j - 1] := ⟨_, rfl⟩
      have gr : l.getD (j - 1) ⟨0, 0⟩ = r := by rw [getD_at (by omega), er]
      have i6 : ∀ L, rdn w0 (h ++ L) (lp'.add ((j - 1) * 2)) 2 = some r.c := fun L => rdn_app (lr (j - 1) _ (by simp [show j - 1 < l.length by omega, er]))
      have i7 : ∀ L, rd w0 (h ++ L) ((lp'.add ((j - 1) * 2)).add 1) = some (.int .i64 r.high) := fun L => rd_get (i6 L) rfl
      rw [gr, decide_eq_true h0, Bool.true_and] at hno ih
      simp only [go_sem, m2, i1, i3, ↓reduceIte, Nat.reduceEqDiff, Nat.reduceAdd, Nat.reduceSub, Nat.reduceMul, Nat.reduceLT, Nat.reduceLeDiff, Int.reduceLE, Int.reduceLT, Int.reduceAdd, Int.reduceSub, Int.reduceMul, Int.reduceEq, Int.reduceBEq, Int.reduceBNe, Int.reduceNeg, Int.reduceToNat, reduceCtorEq]
      refine ⟨(by unfold I64; omega), ?_⟩
      simp only [go_sem, i5, i4, i7, ↓reduceIte, Nat.reduceEqDiff, Nat.reduceAdd, Nat.reduceSub, Nat.reduceMul, Nat.reduceLT, Nat.reduceLeDiff, Int.reduceLE, Int.reduceLT, Int.reduceAdd, Int.reduceSub, Int.reduceMul, Int.reduceEq, Int.reduceBEq, Int.reduceBNe, Int.reduceNeg, Int.reduceToNat, reduceCtorEq]
      refine ⟨fun e2 => ?_, fun e2 => ?_⟩
      · have n1 : ¬ s.low ≤ r.high := by omega
        rw [decide_eq_false n1, Bool.not_false, Bool.true_and] at hno ih
        simp only [go_sem, i1, i2, ↓reduceIte, Nat.reduceEqDiff, Nat.reduceAdd, Nat.reduceSub, Nat.reduceMul, Nat.reduceLT, Nat.reduceLeDiff, Int.reduceLE, Int.reduceLT, Int.reduceAdd, Int.reduceSub, Int.reduceMul, Int.reduceEq, Int.reduceBEq, Int.reduceBNe, Int.reduceNeg, Int.reduceToNat, reduceCtorEq]
        refine rdC_q (rneeded_c b v s hR.app hB (by omega) (by omega) (by omega)).v ?_
        simp only [go_sem, ↓reduceIte, Nat.reduceEqDiff, Nat.reduceAdd, Nat.reduceSub, Nat.reduceMul, Nat.reduceLT, Nat.reduceLeDiff, Int.reduceLE, Int.reduceLT, Int.reduceAdd, Int.reduceSub, Int.reduceMul, Int.reduceEq, Int.reduceBEq, Int.reduceBNe, Int.reduceNeg, Int.reduceToNat, reduceCtorEq]
        refine ⟨fun e3 => ?_, fun e3 => ⟨(by unfold I64; omega), ?_⟩⟩
        · rw [hno (decide_eq_false (by omega))]
        · simpa [bayC] using ih (decide_eq_true (by omega))
      · rw [hno (by rw [decide_eq_true e2]; rfl)]
    · have m2 : ¬ (0 : Int) < j := by omega
      rw [decide_eq_false h0, Bool.false_and, Bool.not_false, Bool.true_and] at hno ih
      simp only [go_sem, m2, i1, i2, ↓reduceIte, Nat.reduceEqDiff, Nat.reduceAdd, Nat.reduceSub, Nat.reduceMul, Nat.reduceLT, Nat.reduceLeDiff, Int.reduceLE, Int.reduceLT, Int.reduceAdd, Int.reduceSub, Int.reduceMul, Int.reduceEq, Int.reduceBEq, Int.reduceBNe, Int.reduceNeg, Int.reduceToNat, reduceCtorEq]
      refine rdC_q (rneeded_c b v s hR.app hB (by omega) (by omega) (by omega)).v ?_
      simp only [go_sem, ↓reduceIte, Nat.reduceEqDiff, Nat.reduceAdd, Nat.reduceSub, Nat.reduceMul, Nat.reduceLT, Nat.reduceLeDiff, Int.reduceLE, Int.reduceLT, Int.reduceAdd, Int.reduceSub, Int.reduceMul, Int.reduceEq, Int.reduceBEq, Int.reduceBNe, Int.reduceNeg, Int.reduceToNat, reduceCtorEq]
      refine ⟨fun e3 => ?_, fun e3 => ⟨(by unfold I64; omega), ?_⟩⟩
      · rw [hno (decide_eq_false (by omega))]
      · simpa [bayC] using ih (decide_eq_true (by omega))
  · refine lp_step hmix L37_0_g [1, 2, 5] L37_0.eq_1 ?_
    have m1 : ¬ (l.length : Int) < l.length := by omega
    simp only [go_sem, m1, ln, ↓reduceIte, Nat.reduceEqDiff, Nat.reduceAdd, Nat.reduceSub, Nat.reduceMul, Nat.reduceLT, Nat.reduceLeDiff, Int.reduceLE, Int.reduceLT, Int.reduceAdd, Int.reduceSub, Int.reduceMul, Int.reduceEq, Int.reduceBEq, Int.reduceBNe, Int.reduceNeg, Int.reduceToNat, reduceCtorEq]
    have : provesB b l = true := List.all_eq_true.2 fun i hi => hall i (List.mem_range.1 hi)
    rw [this]
end Go.Proofs.Ab

namespace Go.Proofs.Ab
open Go

theorem grow_mono {k : KindD} {w x : WearD} {u : UseD} (h : leW w x) : leW (growS k w u) (growS k x u) := by
  simp only [leW, growS, sumS, plus] at *
  omega
theorem aftL_mono {k : KindD} : ∀ {us : List UseD} {w x : WearD}, leW w x → leW (aftL k w us) (aftL k x us)
  | [], _, _, h => h
  | u :: us, _, _, h => aftL_mono (us := us) (grow_mono (u := u) h)
theorem after_mono {b : BayD} (hB : bayB b = true) {s : Nat} (hs : s < b.slots.length) {a c : Int} {n : Nat} (h1 : -1 ≤ a) (h2 : a ≤ c) (h3 : c < n) : leW (afterD b s c n) (afterD b s a n) := by
  have bs := bayB_spec hB
  rcases Int.lt_or_eq_of_le h2 with h4 | h4
  · have e1 : (b.days.drop (a + 1).toNat).take ((n : Int) - a).toNat = (b.days.drop (a + 1).toNat).take (c - a).toNat ++ (b.days.drop (c + 1).toNat).take ((n : Int) - c).toNat := by
      rw [show ((n : Int) - a).toNat = (c - a).toNat + ((n : Int) - c).toNat by omega, List.take_add, List.drop_drop]
      rw [show (a + 1).toNat + (c - a).toNat = (c + 1).toNat by omega]
    have e2 : beginW b s c = ⟨⟨0, 0⟩, ⟨0, 0⟩, ⟨0, 0⟩⟩ := by
      unfold beginW
      rw [if_neg (by omega)]
    unfold afterD
    rw [e1, e2, aftL, aftL, List.foldl_append]
    refine aftL_mono ?_
    have hw := aftL_ok (kindOf_ok hB hs) (us := (b.days.drop (a + 1).toNat).take (c - a).toNat) (beginW_ok hB hs a) (fun u hu => bs.2.2.2.2.2.2.2.2.2.2.2.2.1 _ (List.mem_of_mem_drop (List.mem_of_mem_take hu)))
    have hw2 := wornB_spec hw
    simp only [aftL] at hw2
    simp only [leW]; omega
  · subst h4; simp [leW]
theorem lasts_mono {b : BayD} (hB : bayB b = true) {s : Nat} (hs : s < b.slots.length) {a c : Int} {n : Nat} (h1 : -1 ≤ a) (h2 : a ≤ c) (h3 : c < n) (h4 : n < b.days.length) (h : lastsD Span.high b s c < n) : lastsD Span.high b s a < n := by
  rw [lastsD_lt end_high hB hs (by omega) (by omega) h4] at h ⊢
  cases hq : withinB Span.high (kindOf b s) (afterD b s a n) with
  | false => rfl
  | true => rw [within_le end_high (after_mono hB hs h1 h2 h3) hq] at h; cases h

def chP (b : BayD) : Int → List Span → Prop
  | _, [] => True
  | lo, s :: l => lo ≤ s.low ∧ s.low ≤ s.high ∧ s.high < b.days.length ∧ 0 ≤ neededD b s ∧ chP b (s.high + 1) l
theorem chP_mono {b : BayD} {lo lo' : Int} (h : lo' ≤ lo) : ∀ {l : List Span}, chP b lo l → chP b lo' l
  | [], _ => trivial
  | _ :: _, ⟨h1, h2⟩ => ⟨by omega, h2⟩
theorem prove_iff {b : BayD} {l : List Span} {i : Nat} (hi : i < l.length) : proveK b l i = true ↔ (0 ≤ l[i].low ∧ l[i].low ≤ l[i].high ∧ l[i].high < b.days.length) ∧ 0 ≤ neededD b l[i] ∧ ∀ j, i = j + 1 → ∀ hj : j < l.length, l[j].high < l[i].low := by
  simp only [proveK, getD_at hi, spanB, Bool.and_eq_true, decide_eq_true_eq, Bool.not_eq_true', Bool.and_eq_false_iff, decide_eq_false_iff_not]
  constructor
  · rintro ⟨⟨h1, h2, h3⟩, h4, h5⟩
    refine ⟨⟨h1, h2, by omega⟩, h5, fun j hj hj2 => ?_⟩
    subst hj
    rcases h4 with h4 | h4
    · omega
    · rw [Nat.add_sub_cancel, getD_at hj2] at h4; omega
  · rintro ⟨⟨h1, h2, h3⟩, h5, h4⟩
    refine ⟨⟨h1, h2, by omega⟩, ?_, h5⟩
    rcases Nat.eq_zero_or_pos i with e | e
    · exact .inl (by omega)
    · have := h4 (i - 1) (by omega) (by omega)
      rw [getD_at (show i - 1 < l.length by omega)]
      exact .inr (by omega)
theorem ch_iff {b : BayD} : ∀ {l : List Span} {lo : Int}, 0 ≤ lo → (chP b lo l ↔ (∀ i (hi : i < l.length), (0 ≤ l[i].low ∧ l[i].low ≤ l[i].high ∧ l[i].high < b.days.length) ∧ 0 ≤ neededD b l[i] ∧ ∀ j, i = j + 1 → ∀ hj : j < l.length, l[j].high < l[i].low) ∧ ∀ hj : 0 < l.length, lo ≤ l[0].low)
  | [], lo, _ => by simp [chP]
  | s :: l, lo, h0 => by
    simp only [chP]
    constructor
    · rintro ⟨h1, h2, h3, h4, h5⟩
      obtain ⟨g1, g2⟩ := (ch_iff (l := l) (lo := s.high + 1) (by omega)).1 h5
      refine ⟨fun i hi => ?_, fun _ => h1⟩
      cases i with
      | zero => exact ⟨⟨by simp; omega, by simpa using h2, by simpa using h3⟩, by simpa using h4, fun j hj => by omega⟩
      | succ i =>
        have hi' : i < l.length := by simpa using hi
        obtain ⟨q1, q2, q3⟩ := g1 i hi'
        refine ⟨by simpa using q1, by simpa using q2, fun j hj hj2 => ?_⟩
        have : j = i := by omega
        subst this
        cases j with
        | zero => have := g2 hi'; simp; omega
        | succ j => simpa using q3 j rfl (by omega)
    · rintro ⟨g1, g2⟩
      obtain ⟨q1, q2, _⟩ := g1 0 (by simp)
      simp only [List.getElem_cons_zero] at q1 q2
      refine ⟨g2 (by simp), q1.2.1, q1.2.2, q2, (ch_iff (l := l) (lo := s.high + 1) (by omega)).2 ⟨fun i hi => ?_, fun hj => ?_⟩⟩
      · obtain ⟨p1, p2, p3⟩ := g1 (i + 1) (by simpa using hi)
        refine ⟨by simpa using p1, by simpa using p2, fun j hj hj2 => ?_⟩
        subst hj
        have := p3 (j + 1) rfl (by simpa using hj2)
        simpa using this
      · have := (g1 1 (by simpa using hj)).2.2 0 rfl (by simp)
        simp at this; omega
theorem proves_ch {b : BayD} {l : List Span} : provesB b l = true ↔ chP b 0 l := by
  rw [ch_iff (by omega)]
  simp only [provesB, List.all_eq_true, List.mem_range]
  constructor
  · intro h
    refine ⟨fun i hi => (prove_iff hi).1 (h i hi), fun hj => ((prove_iff hj).1 (h 0 hj)).1.1⟩
  · rintro ⟨h, _⟩ i hi
    exact (prove_iff hi).2 (h i hi)

theorem bet_ge (cur new : List Span) : cur.length ≤ (bet cur new).length ∧ new.length ≤ (bet cur new).length := by
  unfold bet
  split
  · rename_i h
    unfold earlierL at h
    split at h
    · simp at h; omega
    · omega
  · rename_i h
    unfold earlierL at h
    split at h
    · simp at h; omega
    · omega
theorem rowP_ch {b : BayD} {low : Nat} {t : List (List Span)} (hlow : low < b.days.length) (ht : ∀ (j : Nat) l, t[j]? = some l → chP b ((low : Int) + 1 + j) l) (htl : t.length = b.days.length - low) : ∀ q, q ≤ b.days.length - low → chP b low (rowP b t low q) := by
  intro q
  induction q with
  | zero =>
    intro _
    have : t.headD [] = t[0]'(by omega) := by cases t with
      | nil => simp at htl; omega
      | cons a l => rfl
    simp only [rowP]; rw [this]
    exact chP_mono (by omega) (ht 0 _ (List.getElem?_eq_getElem (by omega)))
  | succ q ih =>
    intro hq
    simp only [rowP]
    split
    · rename_i hn
      have hk := ht q _ (List.getElem?_eq_getElem (show q < t.length by omega))
      have h2 : chP b low (⟨low, low + q⟩ :: t.getD q []) := by
        rw [getD_at (show q < t.length by omega)]
        refine ⟨Int.le_refl _, by simp; omega, by simp; omega, hn, chP_mono (by simp; omega) hk⟩
      unfold bet; split
      · exact h2
      · exact ih (by omega)
    · exact ih (by omega)
theorem tblP_ch (b : BayD) : ∀ m, m ≤ b.days.length → ∀ (j : Nat) l, (tblP b b.days.length m)[j]? = some l → chP b ((b.days.length : Int) - m + j) l := by
  intro m
  induction m with
  | zero => intro _ j l h; cases j with
    | zero => simp [tblP] at h; subst h; trivial
    | succ j => simp [tblP] at h
  | succ m ih =>
    intro hm j l h
    cases j with
    | zero =>
      simp only [tblP, List.getElem?_cons_zero, Option.some.injEq] at h
      subst h
      have := rowP_ch (b := b) (low := b.days.length - 1 - m) (t := tblP b b.days.length m) (by omega) (fun j l hj => chP_mono (by omega) (ih (by omega) j l hj)) (by rw [tblP_len]; omega) (m + 1) (by omega)
      exact chP_mono (by omega) this
    | succ j =>
      simp only [tblP, List.getElem?_cons_succ] at h
      exact chP_mono (by omega) (ih (by omega) j l h)
theorem proof_proves (b : BayD) : provesB b (proofD b) = true := by
  rw [proves_ch]
  have hl := tblP_len b b.days.length b.days.length
  have := tblP_ch b b.days.length (Nat.le_refl _) 0 _ (List.getElem?_eq_getElem (by omega))
  have e : proofD b = (tblP b b.days.length b.days.length)[0]'(by omega) := by
    rw [proofD, List.headD_eq_head?_getD, List.head?_eq_getElem?, List.getElem?_eq_getElem (by omega)]; rfl
  rw [e]; exact chP_mono (by omega) this
theorem rowP_ge {b : BayD} {t : List (List Span)} {low : Nat} : ∀ q, (t.headD []).length ≤ (rowP b t low q).length ∧ ∀ j, j < q → 0 ≤ neededD b ⟨low, (low : Int) + j⟩ → (t.getD j []).length + 1 ≤ (rowP b t low q).length
  | 0 => ⟨Nat.le_refl _, fun j hj => by omega⟩
  | q + 1 => by
    obtain ⟨h1, h2⟩ := rowP_ge (b := b) (t := t) (low := low) q
    simp only [rowP]
    split
    · have hb := bet_ge (rowP b t low q) (⟨low, low + q⟩ :: t.getD q [])
      refine ⟨by omega, fun j hj hn => ?_⟩
      rcases Nat.lt_or_ge j q with h3 | h3
      · have := h2 j h3 hn; omega
      · have : j = q := by omega
        subst this
        have := hb.2; simp only [List.length_cons] at this; omega
    · rename_i hq
      refine ⟨h1, fun j hj hn => ?_⟩
      rcases Nat.lt_or_ge j q with h3 | h3
      · exact h2 j h3 hn
      · have : j = q := by omega
        subst this
        exact absurd hn hq
theorem tblP_max (b : BayD) : ∀ m, m ≤ b.days.length → ∀ (j : Nat), j ≤ m → ∀ l, chP b ((b.days.length : Int) - m + j) l → l.length ≤ ((tblP b b.days.length m).getD j []).length := by
  intro m
  induction m with
  | zero => intro _ j hj l h; cases l with
    | nil => simp
    | cons s l => simp only [chP] at h; omega
  | succ m ih =>
    intro hm j hj l h
    cases j with
    | succ j =>
      have := ih (by omega) j (by omega) l (chP_mono (by omega) h)
      simpa [tblP] using this
    | zero =>
      obtain ⟨r1, r2⟩ := rowP_ge (b := b) (t := tblP b b.days.length m) (low := b.days.length - 1 - m) (m + 1)
      have hd : (tblP b b.days.length m).headD [] = (tblP b b.days.length m).getD 0 [] := by
        cases tblP b b.days.length m <;> rfl
      simp only [tblP, List.getD_cons_zero]
      cases l with
      | nil => simp
      | cons s l =>
        obtain ⟨h1, h2, h3, h4, h5⟩ := h
        rcases Int.lt_or_eq_of_le h1 with e | e
        · have := ih (by omega) 0 (by omega) (s :: l) ⟨by omega, h2, h3, h4, h5⟩
          rw [← hd] at this; omega
        · obtain ⟨j, hj⟩ : ∃ j : Nat, s.high = s.low + j := ⟨(s.high - s.low).toNat, by omega⟩
          have es : s = ⟨((b.days.length - 1 - m : Nat) : Int), ((b.days.length - 1 - m : Nat) : Int) + j⟩ := by
            obtain ⟨lo, hi⟩ := s
            simp only at e hj
            have q1 : lo = ((b.days.length - 1 - m : Nat) : Int) := by omega
            simp only [Span.mk.injEq]
            omega
          have hn := r2 j (by omega) (by rw [← es]; exact h4)
          have := ih (by omega) j (by omega) l (chP_mono (by omega) h5)
          simp only [List.length_cons]; omega
theorem proof_max {b : BayD} {l : List Span} (h : provesB b l = true) : l.length ≤ (proofD b).length := by
  have := tblP_max b b.days.length (Nat.le_refl _) 0 (by omega) l (chP_mono (by omega) (proves_ch.1 h))
  have hd : (tblP b b.days.length b.days.length).headD [] = (tblP b b.days.length b.days.length).getD 0 [] := by
    cases tblP b b.days.length b.days.length <;> rfl
  rw [proofD, hd]; exact this

theorem hit {b : BayD} (hB : bayB b = true) {t : List (List Int)} (hT : planB b t = true) (hr : (rightD b t).2.1 = 1) {sp : Span} (h1 : 0 ≤ sp.low) (h2 : sp.low ≤ sp.high) (h3 : sp.high < b.days.length) (hn : 0 ≤ neededD b sp) : ∃ e : Nat, sp.low ≤ e ∧ (e : Int) ≤ sp.high ∧ 0 < (t.getD e []).length := by
  have bs := bayB_spec hB
  have ht : t.length = b.days.length := by simp only [planB, Bool.and_eq_true, beq_iff_eq] at hT; exact hT.1
  have hge := idxOf_ge (slotNeeds b sp) (List.range b.slots.length)
  rw [show idxOf (slotNeeds b sp) (List.range b.slots.length) = neededD b sp from rfl, decide_eq_true hn] at hge
  obtain ⟨s, hs, hq⟩ := List.any_eq_true.1 hge.symm
  rw [List.mem_range] at hs
  have any_pos : ∀ {e : Nat} {x : Int}, ((t.getD e []).any fun y => y == x) = true → 0 < (t.getD e []).length := fun h => by
    obtain ⟨y, hy, _⟩ := List.any_eq_true.1 h
    exact List.length_pos_of_mem hy
  simp only [slotNeeds, Bool.or_eq_true, Bool.and_eq_true, decide_eq_true_eq, List.any_eq_true] at hq
  rcases hq with ⟨q1, q2⟩ | ⟨d, hd, q2⟩
  · refine Classical.byContradiction fun hno => ?_
    obtain ⟨n, en⟩ : ∃ n : Nat, sp.high + 1 = n := ⟨(sp.high + 1).toNat, by omega⟩
    obtain ⟨lo, el⟩ : ∃ lo : Nat, sp.low = lo := ⟨sp.low.toNat, by omega⟩
    have hf := (fault_none (right_fine hB hT hr (n := n) (by omega))).1 s hs
    have hput := putR_ge (b := b) (t := t) (fun n x hx => (choiceB_nn hT n x hx).1) hs (lo := lo) n
    have hb := putR_bd (b := b) (t := t) n ((putR b t n)[s]'(by rw [putR_len]; exact hs)) (List.getElem_mem _)
    rw [← getD_at (d := 0)] at hb
    have hlt : ¬ (lo : Int) ≤ (putR b t n).getD s 0 := fun h => by
      obtain ⟨e, e1, e2, e3⟩ := hput.1 h
      exact hno ⟨e, by omega, by omega, any_pos e3⟩
    rw [en] at q2
    have := lasts_mono hB hs (a := (putR b t n).getD s 0) (c := sp.low - 1) (n := n) (by omega) (by omega) (by omega) (by omega) q2
    rw [lastsD_lt end_high hB hs (by omega) (by omega) (by omega), hf] at this
    cases this
  · have q := bs.2.2.2.2.2.2.2.2.2.2.2.2.2 d hd
    simp only [defB, spanB, inB, Bool.and_eq_true, decide_eq_true_eq] at q
    simp only [defIn, Bool.and_eq_true, beq_iff_eq, decide_eq_true_eq] at q2
    obtain ⟨n, en⟩ : ∃ n : Nat, d.nights.high = n := ⟨d.nights.high.toNat, by omega⟩
    obtain ⟨lo, el⟩ : ∃ lo : Nat, d.nights.low = lo := ⟨d.nights.low.toNat, by omega⟩
    have hf := (fault_none (right_fine hB hT hr (n := n) (by omega))).2.2.2 d hd en
    rw [el, en] at hf
    obtain ⟨i, i1, i2, i3⟩ := (changedD_iff (by omega) (by omega)).1 hf
    exact ⟨i, by omega, by omega, any_pos i3⟩
theorem nights_drop (t : List (List Int)) : ∀ {a c : Nat}, a ≤ c → nightsP (t.drop c) ≤ nightsP (t.drop a) := by
  have h1 : ∀ (t : List (List Int)) (k : Nat), nightsP (t.drop k) ≤ nightsP t := fun t => by
    induction t with
    | nil => intro k; simp
    | cons l t ih => intro k; cases k with
      | zero => simp
      | succ k => have := ih k; simp only [List.drop_succ_cons, nightsP]; omega
  intro a c h
  have := h1 (t.drop a) (c - a)
  rwa [List.drop_drop, show a + (c - a) = c by omega] at this
theorem nights_at {t : List (List Int)} {e : Nat} (h : 0 < (t.getD e []).length) : nightsP (t.drop e) = 1 + nightsP (t.drop (e + 1)) := by
  have he : e < t.length := by
    rcases Nat.lt_or_ge e t.length with a | a
    · exact a
    · rw [List.getD_eq_getElem?_getD, List.getElem?_eq_none a] at h; simp at h
  rw [getD_at he] at h
  rw [List.drop_eq_getElem_cons he, nightsP]
  omega
theorem nights_ge {b : BayD} (hB : bayB b = true) {t : List (List Int)} (hT : planB b t = true) (hr : (rightD b t).2.1 = 1) : ∀ (l : List Span) (a : Nat), chP b a l → l.length ≤ nightsP (t.drop a)
  | [], _, _ => Nat.zero_le _
  | s :: l, a, ⟨h1, h2, h3, h4, h5⟩ => by
    obtain ⟨e, e1, e2, e3⟩ := hit hB hT hr (by omega) h2 h3 h4
    have ih := nights_ge hB hT hr l (e + 1) (chP_mono (by omega) h5)
    have q1 := nights_at e3
    have q2 := nights_drop t (a := a) (c := e) (by omega)
    simp only [List.length_cons]; omega
theorem right_ge {b : BayD} (hB : bayB b = true) {t : List (List Int)} (hT : planB b t = true) (hr : (rightD b t).2.1 = 1) : (proofD b).length ≤ nightsP t := by
  have := nights_ge hB hT hr (proofD b) 0 (proves_ch.1 (proof_proves b))
  rwa [List.drop_zero] at this

def grL (b : BayD) : Nat → Nat → Int → List Span
  | 0, _, _ => []
  | k + 1, n, p => if 0 ≤ neededD b ⟨p + 1, n⟩ then ⟨p + 1, n⟩ :: grL b k (n + 1) n else grL b k (n + 1) p
def wholeS (b : BayD) : List Int := (List.range b.slots.length).map Int.ofNat
def grT (b : BayD) : Nat → Nat → Int → List (List Int)
  | 0, _, _ => []
  | k + 1, n, p => if 0 ≤ neededD b ⟨p + 1, n⟩ then wholeS b :: grT b k (n + 1) n else [] :: grT b k (n + 1) p
theorem grL_ch {b : BayD} : ∀ (k n : Nat) (p : Int), p < n → n + k = b.days.length → chP b (p + 1) (grL b k n p)
  | 0, _, _, _, _ => trivial
  | k + 1, n, p, hp, hk => by
    simp only [grL]
    split
    · rename_i h
      exact ⟨Int.le_refl _, by simp; omega, by simp; omega, h, grL_ch k (n + 1) n (by omega) (by omega)⟩
    · exact grL_ch k (n + 1) p (by omega) (by omega)
theorem grT_nights {b : BayD} (hN : 1 ≤ b.slots.length) : ∀ (k n : Nat) (p : Int), nightsP (grT b k n p) = (grL b k n p).length
  | 0, _, _ => rfl
  | k + 1, n, p => by
    simp only [grL, grT]
    split
    · simp only [nightsP, List.length_cons, grT_nights hN k, wholeS, List.length_map, List.length_range]; omega
    · simp only [nightsP, grT_nights hN k, List.length_nil]; omega
theorem mem_whole {b : BayD} {x : Int} : x ∈ wholeS b ↔ ∃ s : Nat, s < b.slots.length ∧ x = (s : Int) := by
  simp only [wholeS, List.mem_map, List.mem_range]
  exact ⟨fun ⟨s, h1, h2⟩ => ⟨s, h1, h2.symm⟩, fun ⟨s, h1, h2⟩ => ⟨s, h1, h2.symm⟩⟩
theorem all_choice (b : BayD) : choiceB b (wholeS b) = true := by
  rw [choiceB_iff]
  refine ⟨fun x hx => ?_, ?_⟩
  · obtain ⟨s, hs, rfl⟩ := mem_whole.1 hx
    omega
  · rw [wholeS, List.pairwise_map]
    exact List.pairwise_lt_range.imp fun h => Int.ofNat_lt.2 h
theorem nil_choice (b : BayD) : choiceB b [] = true := by rw [choiceB_iff]; simp
theorem grT_goes {b : BayD} (hB : bayB b = true) (hopen : ∀ n, n < b.days.length → b.nights.getD n false = true) (hmost : (b.slots.length : Int) ≤ b.most)
    (hfirst : ∀ (m s : Nat), s < b.slots.length → m < b.days.length → ¬ lastsD Span.high b s ((m : Int) - 1) < m) : ∀ (k n : Nat) (p : Int) (q : List Int), n + k = b.days.length → -1 ≤ p → p < n → q.length = 5 → (∀ s, s < b.slots.length → q.getD s 0 = p) →
    (∀ m : Nat, p < m → m < n → ¬ 0 ≤ neededD b ⟨p + 1, m⟩) → goesT b k n q (grT b k n p)
  | 0, _, _, _, _, _, _, _, _, _ => trivial
  | k + 1, n, p, q, hk, hp, hpn, hq, hqp, hI => by
    have bs := bayB_spec hB
    have hlast : (List.range b.slots.length).all (fun s => !decide (lastsD Span.high b s (q.getD s 0) < n)) = true := by
      rw [List.all_eq_true]
      intro s hs
      rw [List.mem_range] at hs
      rw [hqp s hs, Bool.not_eq_true', decide_eq_false_iff_not]
      rcases Int.lt_or_eq_of_le (show p ≤ (n : Int) - 1 by omega) with e | e
      · have h1 := idxOf_no (hI (n - 1) (by omega) (by omega)) s (List.mem_range.2 hs)
        simp only [slotNeeds, Bool.or_eq_false_iff, Bool.and_eq_false_iff, decide_eq_false_iff_not] at h1
        have h2 := h1.1
        rw [show p + 1 - 1 = p by omega, show ((n - 1 : Nat) : Int) + 1 = n by omega] at h2
        rcases h2 with h2 | h2
        · omega
        · exact h2
      · rw [e]; exact hfirst n s hs (by omega)
    have hhang : ∀ c : List Int, c.length ≤ b.slots.length → (!((decide (0 < c.length) && !(b.nights.getD n false)) || decide (b.most < c.length))) = true := fun c hc => by
      rw [hopen n (by omega)]
      have : ¬ b.most < (c.length : Int) := by omega
      simp [this]
    have hdef : ∀ c : List Int, (∀ d ∈ b.defs, d.nights.high = (n : Int) → p < d.nights.low → (c.any fun y => d.slot == y) = true) → b.defs.all (defOk n q c) = true := fun c hc => by
      rw [List.all_eq_true]
      intro d hd
      have qd := bs.2.2.2.2.2.2.2.2.2.2.2.2.2 d hd
      simp only [defB, spanB, inB, Bool.and_eq_true, decide_eq_true_eq] at qd
      simp only [defOk]
      by_cases e : d.nights.high = (n : Int)
      · rw [hqp d.slot.toNat (by omega)]
        by_cases e2 : p < d.nights.low
        · rw [hc d hd e e2]; simp
        · have : ¬ max p (-1) < d.nights.low := by omega
          simp [this]
      · simp [e]
    simp only [grT]
    split
    · refine ⟨all_choice b, ?_, ?_⟩
      · simp only [allowD, hlast, Bool.true_and, Bool.and_eq_true]
        refine ⟨hhang _ (by simp [wholeS]), hdef _ fun d hd _ _ => ?_⟩
        have qd := bs.2.2.2.2.2.2.2.2.2.2.2.2.2 d hd
        simp only [defB, spanB, inB, Bool.and_eq_true, decide_eq_true_eq] at qd
        rw [List.any_eq_true]
        refine ⟨d.slot, mem_whole.2 ⟨d.slot.toNat, by omega, by omega⟩, by simp⟩
      · refine grT_goes hB hopen hmost hfirst k (n + 1) n _ (by omega) (by omega) (by omega) (by rw [putD_len, hq]) (fun s hs => ?_) (fun m h1 h2 => by omega)
        rw [putD_get (by omega), if_pos]
        rw [any_nat (fun x hx => by obtain ⟨s, _, rfl⟩ := mem_whole.1 hx; omega), List.any_eq_true]
        exact ⟨s, mem_whole.2 ⟨s, hs, rfl⟩, by simp⟩
    · rename_i hno
      refine ⟨nil_choice b, ?_, ?_⟩
      · simp only [allowD, hlast, Bool.true_and, Bool.and_eq_true]
        refine ⟨hhang _ (by simp), hdef _ fun d hd e1 e2 => ?_⟩
        have qd := bs.2.2.2.2.2.2.2.2.2.2.2.2.2 d hd
        simp only [defB, spanB, inB, Bool.and_eq_true, decide_eq_true_eq] at qd
        have h1 := idxOf_no hno d.slot.toNat (List.mem_range.2 (by omega))
        simp only [slotNeeds, Bool.or_eq_false_iff] at h1
        have h2 := List.any_eq_false.1 h1.2 d hd
        exact absurd (by simp [defIn]; omega) h2
      · refine grT_goes hB hopen hmost hfirst k (n + 1) p _ (by omega) (by omega) (by omega) (by rw [putD_len, hq]) (fun s hs => ?_) (fun m h1 h2 => ?_)
        · simpa [putD] using hqp s hs
        · rcases Nat.lt_or_ge m n with h3 | h3
          · exact hI m h1 h3
          · have : m = n := by omega
            subst this; exact hno
theorem dual_open {b : BayD} (hB : bayB b = true) (hok : (searchD b b.days.length 0 [-1, -1, -1, -1, -1]).ok = true) (hopen : ∀ n, n < b.days.length → b.nights.getD n false = true) (hmost : (b.slots.length : Int) ≤ b.most) :
    nightsP (planD b) = (proofD b).length := by
  have bs := bayB_spec hB
  obtain ⟨sb1, sb2⟩ := search_best (b := b) (by omega) b.days.length 0 [-1, -1, -1, -1, -1]
  obtain ⟨g1, _⟩ := sb1 hok
  have hpB : planB b (planD b) = true := goes_planB g1
  have hr := (goes_right hB hpB).1 g1
  have hge := right_ge hB hpB hr
  have hfirst : ∀ (m s : Nat), s < b.slots.length → m < b.days.length → ¬ lastsD Span.high b s ((m : Int) - 1) < m := fun m s hs hm h => by
    have hf := (fault_none (right_fine hB hpB hr (n := m) hm)).1 s hs
    have hb := putR_bd (b := b) (t := planD b) m ((putR b (planD b) m)[s]'(by rw [putR_len]; exact hs)) (List.getElem_mem _)
    rw [← getD_at (d := 0)] at hb
    have := lasts_mono hB hs (a := (putR b (planD b) m).getD s 0) (c := (m : Int) - 1) (n := m) (by omega) (by omega) (by omega) (by omega) h
    rw [lastsD_lt end_high hB hs (by omega) (by omega) (by omega), hf] at this
    cases this
  have hg := grT_goes hB hopen hmost hfirst b.days.length 0 (-1) [-1, -1, -1, -1, -1] (by omega) (by omega) (by omega) rfl (fun s hs => by
    have : s < 5 := by omega
    match s, this with
    | 0, _ => rfl
    | 1, _ => rfl
    | 2, _ => rfl
    | 3, _ => rfl
    | 4, _ => rfl) (fun m h1 h2 => by omega)
  have hl := (sb2 _ hg).2
  have hn := grT_nights (b := b) (by omega) b.days.length 0 (-1)
  have hm := proof_max (proves_ch.2 (grL_ch (b := b) b.days.length 0 (-1) (by omega) (by omega)))
  have hle : nightsP (planD b) ≤ nightsP (grT b b.days.length 0 (-1)) := by
    rw [show planG b b.days.length 0 [-1, -1, -1, -1, -1] = planD b from rfl, lessP] at hl
    split at hl
    · simp at hl; omega
    · omega
  omega
end Go.Proofs.Ab

namespace Go.Proofs.Ab
open Go Go.Proofs
variable {w0 : World} {h : Heap}
attribute [local irreducible] ACall ACallV AYield DCall DCallV rvC rdC lp rg dr ex un rv rd'

set_option maxHeartbeats 4000000 in
theorem WearDual_c (b : BayD) (v : BayV) (t : List (List Int)) (pv : AV) (l : List Span) (lv : AV) (hS : BayS w0 h b v) (hP : LL w0 h pv t) (hl : t.length ≤ 9223372036854775807) (hL : Sl w0 h 2 lv (l.map Span.c)) (hll' : l.length ≤ 9223372036854775807) :
    DCall Try.prog w0 8 [.agg (bayC b v), pv, lv] h (.bool true) h := by
  refine DCall_forget trivial (ACall_sx hmix mf8_ok mf8_b mf8_g (Nat.le_of_ble_eq_true rfl) fun hb ha => ex_in ?_)
  have o1 := hS.kinds.one.1
  have o2 := hS.slots.one.1
  have o3 := hS.days.one.1
  have o4 := hS.nights.one.1
  have o5 := hS.defs.one.1
  have ln := hL.use.1
  simp only [List.length_map] at ln
  have fin : ∀ L, HSub h (h ++ L) := fun L => HSub.refl.app
  simp only [go_sem, mf8, o1, o2, o3, o4, o5, ↓reduceIte, Nat.reduceEqDiff, Nat.reduceAdd, Nat.reduceSub, Nat.reduceMul, Nat.reduceLT, Nat.reduceLeDiff, Int.reduceLE, Int.reduceLT, Int.reduceAdd, Int.reduceSub, Int.reduceMul, Int.reduceEq, Int.reduceBEq, Int.reduceBNe, Int.reduceNeg, Int.reduceToNat, reduceCtorEq]
  refine rvC_use (small_c b v 3 10 hS.app).v ?_
  simp only [go_sem, ↓reduceIte, Nat.reduceEqDiff, Nat.reduceAdd, Nat.reduceSub, Nat.reduceMul, Nat.reduceLT, Nat.reduceLeDiff, Int.reduceLE, Int.reduceLT, Int.reduceAdd, Int.reduceSub, Int.reduceMul, Int.reduceEq, Int.reduceBEq, Int.reduceBNe, Int.reduceNeg, Int.reduceToNat, reduceCtorEq]
  refine ⟨fun e1 => ?_, fun e1 => ?_⟩
  rotate_left
  · refine rvC_use known_c.v ?_
    simp only [go_sem, ↓reduceIte, Nat.reduceEqDiff, Nat.reduceAdd, Nat.reduceSub, Nat.reduceMul, Nat.reduceLT, Nat.reduceLeDiff, Int.reduceLE, Int.reduceLT, Int.reduceAdd, Int.reduceSub, Int.reduceMul, Int.reduceEq, Int.reduceBEq, Int.reduceBNe, Int.reduceNeg, Int.reduceToNat, reduceCtorEq]
    exact fin _
  have hsh : shortB b = true := by simp only [smallB, Bool.and_eq_true] at e1; exact e1.1
  have hR := hS.R hsh
  refine rvC_use (rbay_c b v hR.app).v ?_
  simp only [go_sem, ↓reduceIte, Nat.reduceEqDiff, Nat.reduceAdd, Nat.reduceSub, Nat.reduceMul, Nat.reduceLT, Nat.reduceLeDiff, Int.reduceLE, Int.reduceLT, Int.reduceAdd, Int.reduceSub, Int.reduceMul, Int.reduceEq, Int.reduceBEq, Int.reduceBNe, Int.reduceNeg, Int.reduceToNat, reduceCtorEq]
  refine ⟨fun eb => ?_, fun eb => ?_⟩
  rotate_left
  · refine rvC_use known_c.v ?_
    simp only [go_sem, ↓reduceIte, Nat.reduceEqDiff, Nat.reduceAdd, Nat.reduceSub, Nat.reduceMul, Nat.reduceLT, Nat.reduceLeDiff, Int.reduceLE, Int.reduceLT, Int.reduceAdd, Int.reduceSub, Int.reduceMul, Int.reduceEq, Int.reduceBEq, Int.reduceBNe, Int.reduceNeg, Int.reduceToNat, reduceCtorEq]
    exact fin _
  refine rvC_use (brief_c t pv hP.app hl).v ?_
  simp only [go_sem, ↓reduceIte, Nat.reduceEqDiff, Nat.reduceAdd, Nat.reduceSub, Nat.reduceMul, Nat.reduceLT, Nat.reduceLeDiff, Int.reduceLE, Int.reduceLT, Int.reduceAdd, Int.reduceSub, Int.reduceMul, Int.reduceEq, Int.reduceBEq, Int.reduceBNe, Int.reduceNeg, Int.reduceToNat, reduceCtorEq]
  refine ⟨fun e2 => ?_, fun e2 => ?_⟩
  rotate_left
  · refine rvC_use known_c.v ?_
    simp only [go_sem, ↓reduceIte, Nat.reduceEqDiff, Nat.reduceAdd, Nat.reduceSub, Nat.reduceMul, Nat.reduceLT, Nat.reduceLeDiff, Int.reduceLE, Int.reduceLT, Int.reduceAdd, Int.reduceSub, Int.reduceMul, Int.reduceEq, Int.reduceBEq, Int.reduceBNe, Int.reduceNeg, Int.reduceToNat, reduceCtorEq]
    exact fin _
  have htl : t.length < 1000000 := by
    simp only [briefB, Bool.and_eq_true, decide_eq_true_eq] at e2; omega
  have hll : ∀ l ∈ t, l.length < 1000000 := fun l hl => by
    simp only [briefB, Bool.and_eq_true, decide_eq_true_eq, List.all_eq_true] at e2
    have := e2.1 l hl; omega
  refine rvC_use (rplans_c b v t pv hR.app hP.app htl hll).v ?_
  simp only [go_sem, ↓reduceIte, Nat.reduceEqDiff, Nat.reduceAdd, Nat.reduceSub, Nat.reduceMul, Nat.reduceLT, Nat.reduceLeDiff, Int.reduceLE, Int.reduceLT, Int.reduceAdd, Int.reduceSub, Int.reduceMul, Int.reduceEq, Int.reduceBEq, Int.reduceBNe, Int.reduceNeg, Int.reduceToNat, reduceCtorEq]
  refine ⟨fun ep => ?_, fun ep => ?_⟩
  rotate_left
  · refine rvC_use known_c.v ?_
    simp only [go_sem, ↓reduceIte, Nat.reduceEqDiff, Nat.reduceAdd, Nat.reduceSub, Nat.reduceMul, Nat.reduceLT, Nat.reduceLeDiff, Int.reduceLE, Int.reduceLT, Int.reduceAdd, Int.reduceSub, Int.reduceMul, Int.reduceEq, Int.reduceBEq, Int.reduceBNe, Int.reduceNeg, Int.reduceToNat, reduceCtorEq]
    exact fin _
  simp only [go_sem, ln, ↓reduceIte, Nat.reduceEqDiff, Nat.reduceAdd, Nat.reduceSub, Nat.reduceMul, Nat.reduceLT, Nat.reduceLeDiff, Int.reduceLE, Int.reduceLT, Int.reduceAdd, Int.reduceSub, Int.reduceMul, Int.reduceEq, Int.reduceBEq, Int.reduceBNe, Int.reduceNeg, Int.reduceToNat, reduceCtorEq]
  refine ⟨fun e3 => ?_, fun e3 => ?_⟩
  · refine rvC_use known_c.v ?_
    simp only [go_sem, ↓reduceIte, Nat.reduceEqDiff, Nat.reduceAdd, Nat.reduceSub, Nat.reduceMul, Nat.reduceLT, Nat.reduceLeDiff, Int.reduceLE, Int.reduceLT, Int.reduceAdd, Int.reduceSub, Int.reduceMul, Int.reduceEq, Int.reduceBEq, Int.reduceBNe, Int.reduceNeg, Int.reduceToNat, reduceCtorEq]
    exact fin _
  have hl3 : l.length < 1000000 := by omega
  have bs := bayB_spec eb
  have hgr := goes_right eb ep
  obtain ⟨sb1, sb2⟩ := search_best (b := b) (by omega) b.days.length 0 [-1, -1, -1, -1, -1]
  refine rvC_post (ACall.vc (first := []) (args := [.agg (bayC b v)]) (Proof_c b v hR.app)) ?_
  rintro y H1 (⟨hx, _⟩ | ⟨_, x, rfl, hx, L1, rfl⟩)
  · rw [eb] at hx; cases hx
  obtain ⟨lnx, _⟩ := hx.use
  simp only [List.length_map] at lnx
  have hs1 : HSub (h ++ [some (.row [v.kv, v.sv, v.dv, v.nv, .int .i64 b.most, v.fv])]) (h ++ [some (.row [v.kv, v.sv, v.dv, v.nv, .int .i64 b.most, v.fv])] ++ L1) := HSub.refl.app
  generalize h ++ [some (.row [v.kv, v.sv, v.dv, v.nv, .int .i64 b.most, v.fv])] ++ L1 = H1 at hx hs1 ⊢
  have b1 : ∀ L, (H1 ++ L)[h.length]? = some (some (.row (bayC b v))) := fun L => getElem?_app_left (hs1.2 _ _ (by simp [bayC]))
  have b1' := b1 []
  rw [List.append_nil] at b1'
  have hs2 : HSub h H1 := HSub.trans HSub.refl.app hs1
  have hR1 := hR.sub hs2
  have hP1 := hP.sub hs2
  have hL1 := hL.sub hs2
  have fin1 : ∀ L, HSub h (H1 ++ L) := fun L => hs2.app
  have hRt : ∀ L, DCall Try.prog w0 21 [.agg (bayC b v), pv] (H1 ++ L) (RightV b t) (H1 ++ L) := fun L => Right_c b v t pv hR1.app hP1.app htl hll
  have hRt' := hRt []
  rw [List.append_nil, RightV, if_pos (by rw [eb, ep]; rfl)] at hRt'
  simp only [go_sem, b1', ↓reduceIte, Nat.reduceEqDiff, Nat.reduceAdd, Nat.reduceSub, Nat.reduceMul, Nat.reduceLT, Nat.reduceLeDiff, Int.reduceLE, Int.reduceLT, Int.reduceAdd, Int.reduceSub, Int.reduceMul, Int.reduceEq, Int.reduceBEq, Int.reduceBNe, Int.reduceNeg, Int.reduceToNat, reduceCtorEq]
  refine rvC_use hRt'.v ?_
  simp only [go_sem, bne_self_eq_false, b1, ↓reduceIte, Nat.reduceEqDiff, Nat.reduceAdd, Nat.reduceSub, Nat.reduceMul, Nat.reduceLT, Nat.reduceLeDiff, Int.reduceLE, Int.reduceLT, Int.reduceAdd, Int.reduceSub, Int.reduceMul, Int.reduceEq, Int.reduceBEq, Int.reduceBNe, Int.reduceNeg, Int.reduceToNat, reduceCtorEq]
  have hpl : (proofD b).length < 1000000 := by
    have := (tblP_ok b b.days.length b.days.length (Nat.le_refl _) 0 _ (List.getElem?_eq_getElem (by rw [tblP_len]; omega))).2
    have e : proofD b = (tblP b b.days.length b.days.length)[0]'(by rw [tblP_len]; omega) := by
      rw [proofD, List.headD_eq_head?_getD, List.head?_eq_getElem?, List.getElem?_eq_getElem (by rw [tblP_len]; omega)]; rfl
    rw [e]; omega
  refine rvC_use (rproves_c b v (proofD b) x hR1.app eb hx.app hpl).v ?_
  rw [proof_proves]
  simp only [go_sem, b1, ↓reduceIte, Nat.reduceEqDiff, Nat.reduceAdd, Nat.reduceSub, Nat.reduceMul, Nat.reduceLT, Nat.reduceLeDiff, Int.reduceLE, Int.reduceLT, Int.reduceAdd, Int.reduceSub, Int.reduceMul, Int.reduceEq, Int.reduceBEq, Int.reduceBNe, Int.reduceNeg, Int.reduceToNat, reduceCtorEq]
  refine rvC_use (rproves_c b v l lv hR1.app eb hL1.app hl3).v ?_
  simp only [go_sem, ln, lnx, ↓reduceIte, Nat.reduceEqDiff, Nat.reduceAdd, Nat.reduceSub, Nat.reduceMul, Nat.reduceLT, Nat.reduceLeDiff, Int.reduceLE, Int.reduceLT, Int.reduceAdd, Int.reduceSub, Int.reduceMul, Int.reduceEq, Int.reduceBEq, Int.reduceBNe, Int.reduceNeg, Int.reduceToNat, reduceCtorEq]
  have hmax : provesB b l = true → ¬ ((proofD b).length : Int) < l.length := fun e => by have := proof_max e; omega
  have hlow : (rightD b t).2.1 = 1 → ¬ (nightsP t : Int) < (proofD b).length := fun e e2 => by
    have := right_ge eb ep e; omega
  refine ⟨fun e => ⟨fun e2 => absurd e2 (hmax e), fun e2 => ?_⟩, fun e => ?_⟩
  all_goals
    refine rvC_use (cost_c t pv hP1.app htl hll).v ?_
    simp only [go_sem, lnx, ↓reduceIte, Nat.reduceEqDiff, Nat.reduceAdd, Nat.reduceSub, Nat.reduceMul, Nat.reduceLT, Nat.reduceLeDiff, Int.reduceLE, Int.reduceLT, Int.reduceAdd, Int.reduceSub, Int.reduceMul, Int.reduceEq, Int.reduceBEq, Int.reduceBNe, Int.reduceNeg, Int.reduceToNat, reduceCtorEq]
    refine ⟨fun e => ⟨fun e2 => absurd e2 (hlow e), fun e2 => ?_⟩, fun e => ?_⟩
  all_goals
    simp only [go_sem, b1, ↓reduceIte, Nat.reduceEqDiff, Nat.reduceAdd, Nat.reduceSub, Nat.reduceMul, Nat.reduceLT, Nat.reduceLeDiff, Int.reduceLE, Int.reduceLT, Int.reduceAdd, Int.reduceSub, Int.reduceMul, Int.reduceEq, Int.reduceBEq, Int.reduceBNe, Int.reduceNeg, Int.reduceToNat, reduceCtorEq]
  all_goals
    refine rvC_post (ACall.vc (first := []) (args := [.agg (bayC b v)]) (Plan_c b v hR1.app)) ?_
    rintro y2 H2 ⟨hs3, hK⟩
    rw [if_pos eb] at hK
    have hs4 : HSub H1 H2 := HSub.trans HSub.refl.app hs3
    have hs5 : HSub h H2 := hs2.trans hs4
    have b2 : ∀ L, (H2 ++ L)[h.length]? = some (some (.row (bayC b v))) := fun L => getElem?_app_left (hs4.2 _ _ b1')
    have b2' := b2 []
    rw [List.append_nil] at b2'
    have hR2 := hR1.sub hs4
    have hx2 := hx.sub hs4
    by_cases hok : (searchD b b.days.length 0 [-1, -1, -1, -1, -1]).ok = true
    rotate_left
    · rw [if_neg hok] at hK
      subst hK
      simp only [go_sem, b2', ↓reduceIte, Nat.reduceEqDiff, Nat.reduceAdd, Nat.reduceSub, Nat.reduceMul, Nat.reduceLT, Nat.reduceLeDiff, Int.reduceLE, Int.reduceLT, Int.reduceAdd, Int.reduceSub, Int.reduceMul, Int.reduceEq, Int.reduceBEq, Int.reduceBNe, Int.reduceNeg, Int.reduceToNat, reduceCtorEq]
      refine rvC_use known_c.v ?_
      simp only [go_sem, ↓reduceIte, Nat.reduceEqDiff, Nat.reduceAdd, Nat.reduceSub, Nat.reduceMul, Nat.reduceLT, Nat.reduceLeDiff, Int.reduceLE, Int.reduceLT, Int.reduceAdd, Int.reduceSub, Int.reduceMul, Int.reduceEq, Int.reduceBEq, Int.reduceBNe, Int.reduceNeg, Int.reduceToNat, reduceCtorEq]
      exact hs5
    rw [if_pos hok] at hK
    obtain ⟨x2, rfl, hx3⟩ := hK
    obtain ⟨g1, _⟩ := sb1 hok
    have hpB : planB b (planD b) = true := goes_planB g1
    have hfine := (goes_right eb hpB).1 g1
    have hpl : (planD b).length < 1000000 := by rw [planD, planG_len]; omega
    have hpb := planG_bd (b := b) b.days.length 0 [-1, -1, -1, -1, -1]
    have hge := right_ge eb hpB hfine
    have l1 := hR2.slots.use.1
    obtain ⟨l4, nq, nx, nrow, _⟩ := hR2.nights.use
    simp only [List.length_map] at l1 l4 nx
    simp only [go_sem, ↓reduceIte, Nat.reduceEqDiff, Nat.reduceAdd, Nat.reduceSub, Nat.reduceMul, Nat.reduceLT, Nat.reduceLeDiff, Int.reduceLE, Int.reduceLT, Int.reduceAdd, Int.reduceSub, Int.reduceMul, Int.reduceEq, Int.reduceBEq, Int.reduceBNe, Int.reduceNeg, Int.reduceToNat, reduceCtorEq]
    refine rvC_use (cost_c (planD b) x2 hx3 hpl hpb).v ?_
    simp only [go_sem, b2', l1, ↓reduceIte, Nat.reduceEqDiff, Nat.reduceAdd, Nat.reduceSub, Nat.reduceMul, Nat.reduceLT, Nat.reduceLeDiff, Int.reduceLE, Int.reduceLT, Int.reduceAdd, Int.reduceSub, Int.reduceMul, Int.reduceEq, Int.reduceBEq, Int.reduceBNe, Int.reduceNeg, Int.reduceToNat, reduceCtorEq]
    have o3' := hR2.days.one.1
    refine lp_for (S := Unit) (fun j _ => [(3, .ptr (.own h.length 0)), (7, x), (15, .int .i64 (nightsP (planD b))), (17, .bool (decide ((b.slots.length : Int) ≤ b.most) && (b.nights.take j).all id)), (18, .int .i64 j)]) (fun _ _ => H2) (fun _ _ => True) b.nights.length () trivial (by simp) (by simp) (fun j _ hj _ ih => ?_) (fun _ _ => ?_)
    · refine lp_step hmix L8_0_g [3, 7, 15, 17, 18] L8_0.eq_1 ?_
      have m1 : (j : Int) < b.nights.length := by omega
      have n1 := nx j hj
      obtain ⟨z, ez⟩ : ∃ z, z = b.nights[j] := ⟨_, rfl⟩
      have n2 : rd w0 H2 (nq.add j) = some (.bool z) := by
        have := rd_get (nrow j _ (by simp [hj]; rfl)) (o := 0) (x := .bool z) (by simp [ez])
        rwa [Nat.mul_one, show (nq.add j).add 0 = nq.add j by rw [Pl.add_add]; rfl] at this
      have ih := ih () trivial
      rw [List.take_succ_eq_append_getElem hj, List.all_append, ← Bool.and_assoc, ← ez] at ih
      simp only [List.all_cons, List.all_nil, Bool.and_true, id] at ih
      simp only [go_sem, b2', m1, l4, n1, n2, Nat.mul_one, ↓reduceIte, Nat.reduceEqDiff, Nat.reduceAdd, Nat.reduceSub, Nat.reduceMul, Nat.reduceLT, Nat.reduceLeDiff, Int.reduceLE, Int.reduceLT, Int.reduceAdd, Int.reduceSub, Int.reduceMul, Int.reduceEq, Int.reduceBEq, Int.reduceBNe, Int.reduceNeg, Int.reduceToNat, reduceCtorEq]
      refine ⟨fun e => ⟨(by unfold I64; omega), ?_⟩, fun e => ⟨(by unfold I64; omega), ?_⟩⟩
      · rw [e, Bool.true_and] at ih; exact ih
      · rw [e, Bool.false_and] at ih; exact ih
    · refine lp_step hmix L8_0_g [3, 7, 15, 17, 18] L8_0.eq_1 ?_
      have m1 : ¬ (b.nights.length : Int) < b.nights.length := by omega
      have m2 : ((proofD b).length : Int) ≤ nightsP (planD b) := by omega
      rw [List.take_length]
      simp only [go_sem, b2', m1, l4, lnx, m2, ↓reduceIte, Nat.reduceEqDiff, Nat.reduceAdd, Nat.reduceSub, Nat.reduceMul, Nat.reduceLT, Nat.reduceLeDiff, Int.reduceLE, Int.reduceLT, Int.reduceAdd, Int.reduceSub, Int.reduceMul, Int.reduceEq, Int.reduceBEq, Int.reduceBNe, Int.reduceNeg, Int.reduceToNat, reduceCtorEq]
      refine ⟨fun e => ?_, fun e => ?_⟩
      · simp only [Bool.and_eq_true, decide_eq_true_eq, List.all_eq_true, id] at e
        have hd := dual_open eb hok (fun n hn => by rw [getD_at (by omega)]; exact e.2 _ (List.getElem_mem _)) e.1
        refine ⟨fun _ => ?_, fun e2 => absurd (by rw [hd]) e2⟩
        refine rvC_use known_c.v ?_
        simp only [go_sem, ↓reduceIte, Nat.reduceEqDiff, Nat.reduceAdd, Nat.reduceSub, Nat.reduceMul, Nat.reduceLT, Nat.reduceLeDiff, Int.reduceLE, Int.reduceLT, Int.reduceAdd, Int.reduceSub, Int.reduceMul, Int.reduceEq, Int.reduceBEq, Int.reduceBNe, Int.reduceNeg, Int.reduceToNat, reduceCtorEq]
        exact hs5
      · refine rvC_use known_c.v ?_
        simp only [go_sem, ↓reduceIte, Nat.reduceEqDiff, Nat.reduceAdd, Nat.reduceSub, Nat.reduceMul, Nat.reduceLT, Nat.reduceLeDiff, Int.reduceLE, Int.reduceLT, Int.reduceAdd, Int.reduceSub, Int.reduceMul, Int.reduceEq, Int.reduceBEq, Int.reduceBNe, Int.reduceNeg, Int.reduceToNat, reduceCtorEq]
        exact hs5
end Go.Proofs.Ab

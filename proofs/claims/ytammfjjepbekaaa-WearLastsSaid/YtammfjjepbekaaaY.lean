/- The own layer under the proofs of this seat, part Y: what calls of the program come to on an abstract heap. No condition. -/
import Derived.Test.YtammfjjepbekaaaX
set_option linter.unusedSimpArgs false
set_option linter.unusedVariables false
namespace Go.Proofs.Ab
open Go Go.Proofs
variable {w0 : World} {h : Heap}
attribute [local irreducible] ACall ACallV AYield DCall DCallV rvC rdC lp rg dr ex un rv rd'

def AfterV (b : BayD) (slot night day : Int) : AV :=
  if bayB b && inB slot 0 (b.slots.length - 1) && inB night (-1) (b.days.length - 1) && inB day (night + 1) (b.days.length - 1) then .tup [.agg (afterD b slot.toNat night day).c, .int .i64 0] else .tup [.agg noWear.c, .int .i64 2]

theorem After_c (b : BayD) (v : BayV) (slot night day : Int) (hR : BayR w0 h b v) : DCall Try.prog w0 44 [.agg (bayC b v), .int .i64 slot, .int .i64 night, .int .i64 day] h (AfterV b slot night day) h := by
  refine DCall_quiet hmix mf44_ok mf44_b mf44_g (Nat.le_of_ble_eq_true rfl) (by unfold AfterV; split <;> simp [AV.bdd, AV.bdds]) fun hb ha => ex_in ?_
  have o1 := hR.kinds.one
  have o2 := hR.slots.one
  have o3 := hR.days.one
  have o4 := hR.nights.one
  have o5 := hR.defs.one
  have l1 := hR.slots.use.1
  have l2 := hR.days.use.1
  have l3 := hR.len
  simp only [List.length_map] at l1 l2
  simp only [go_sem, mf44, o1.1, o2.1, o3.1, o4.1, o5.1, ↓reduceIte, Nat.reduceEqDiff, Nat.reduceAdd, Nat.reduceSub, Nat.reduceMul, Nat.reduceLT, Nat.reduceLeDiff, Int.reduceLE, Int.reduceLT, Int.reduceAdd, Int.reduceSub, Int.reduceMul, Int.reduceEq, Int.reduceBEq, Int.reduceBNe, Int.reduceNeg, Int.reduceToNat, reduceCtorEq]
  refine rvC_use (bay_c b v hR.app).v ?_
  simp only [go_sem, l1, l2, ↓reduceIte, Nat.reduceEqDiff, Nat.reduceAdd, Nat.reduceSub, Nat.reduceMul, Nat.reduceLT, Nat.reduceLeDiff, Int.reduceLE, Int.reduceLT, Int.reduceAdd, Int.reduceSub, Int.reduceMul, Int.reduceEq, Int.reduceBEq, Int.reduceBNe, Int.reduceNeg, Int.reduceToNat, reduceCtorEq]
  refine ⟨fun e1 => ⟨(by unfold I64; omega), ?_⟩, fun e1 => by simp [AfterV, e1, noWear, WearD.c]⟩
  refine rvC_use (in_c _ _ _).v ?_
  simp only [go_sem, l1, l2, ↓reduceIte, Nat.reduceEqDiff, Nat.reduceAdd, Nat.reduceSub, Nat.reduceMul, Nat.reduceLT, Nat.reduceLeDiff, Int.reduceLE, Int.reduceLT, Int.reduceAdd, Int.reduceSub, Int.reduceMul, Int.reduceEq, Int.reduceBEq, Int.reduceBNe, Int.reduceNeg, Int.reduceToNat, reduceCtorEq]
  refine ⟨fun e2 => ⟨(by unfold I64; omega), ?_⟩, fun e2 => by simp [AfterV, e1, e2, noWear, WearD.c]⟩
  refine rvC_use (in_c _ _ _).v ?_
  simp only [go_sem, l1, l2, ↓reduceIte, Nat.reduceEqDiff, Nat.reduceAdd, Nat.reduceSub, Nat.reduceMul, Nat.reduceLT, Nat.reduceLeDiff, Int.reduceLE, Int.reduceLT, Int.reduceAdd, Int.reduceSub, Int.reduceMul, Int.reduceEq, Int.reduceBEq, Int.reduceBNe, Int.reduceNeg, Int.reduceToNat, reduceCtorEq]
  refine ⟨fun e3 => ?_, fun e3 => by simp [AfterV, e1, e2, e3, noWear, WearD.c]⟩
  have f2 := e2
  have f3 := e3
  simp only [inB, Bool.and_eq_true, decide_eq_true_eq] at f2 f3
  refine ⟨(by unfold I64; omega), (by unfold I64; omega), ?_⟩
  refine rvC_use (in_c _ _ _).v ?_
  simp only [go_sem, o1.1, o2.1, o3.1, o4.1, o5.1, ↓reduceIte, Nat.reduceEqDiff, Nat.reduceAdd, Nat.reduceSub, Nat.reduceMul, Nat.reduceLT, Nat.reduceLeDiff, Int.reduceLE, Int.reduceLT, Int.reduceAdd, Int.reduceSub, Int.reduceMul, Int.reduceEq, Int.reduceBEq, Int.reduceBNe, Int.reduceNeg, Int.reduceToNat, reduceCtorEq]
  refine ⟨fun e4 => by simp [AfterV, e1, e2, e3, e4, noWear, WearD.c], fun e4 => ?_⟩
  have f4 := e4
  simp only [inB, Bool.and_eq_true, decide_eq_true_eq] at f4
  obtain ⟨s, rfl⟩ : ∃ s : Nat, slot = s := ⟨slot.toNat, by omega⟩
  obtain ⟨d, rfl⟩ : ∃ d : Nat, day = d := ⟨day.toNat, by omega⟩
  refine rvC_use (days_c (h.length + 4) (by simp) s night).v ?_
  simp only [go_sem, ↓reduceIte, Nat.reduceEqDiff, Nat.reduceAdd, Nat.reduceSub, Nat.reduceMul, Nat.reduceLT, Nat.reduceLeDiff, Int.reduceLE, Int.reduceLT, Int.reduceAdd, Int.reduceSub, Int.reduceMul, Int.reduceEq, Int.reduceBEq, Int.reduceBNe, Int.reduceNeg, Int.reduceToNat, reduceCtorEq]
  refine rg_keep [7, 8, 9, 52] ?_
  simp only [go_sem, ↓reduceIte, Nat.reduceEqDiff, Nat.reduceAdd, Nat.reduceSub, Nat.reduceMul, Nat.reduceLT, Nat.reduceLeDiff, Int.reduceLE, Int.reduceLT, Int.reduceAdd, Int.reduceSub, Int.reduceMul, Int.reduceEq, Int.reduceBEq, Int.reduceBNe, Int.reduceNeg, Int.reduceToNat, reduceCtorEq]
  refine rg_use (fid := 121) (first := []) rfl (.inl rfl) fun hca hcb hps => ?_
  simp only [go_sem, ↓reduceIte, Nat.reduceEqDiff, Nat.reduceAdd, Nat.reduceSub, Nat.reduceMul, Nat.reduceLT, Nat.reduceLeDiff, Int.reduceLE, Int.reduceLT, Int.reduceAdd, Int.reduceSub, Int.reduceMul, Int.reduceEq, Int.reduceBEq, Int.reduceBNe, Int.reduceNeg, Int.reduceToNat, reduceCtorEq]
  obtain ⟨W, eW⟩ : ∃ W, W = afterD b s night d := ⟨_, rfl⟩
  obtain ⟨Hf, hHf⟩ : ∃ Hf : WearD → LoopState → Option Code → Heap, Hf = fun w st pd => h ++ [some (Blk.row (bayC b v)), some (Blk.row [AV.int IntKind.i64 (d : Int)]), some (Blk.row w.c), some (Blk.row [AV.int IntKind.i64 0]), some (Blk.row (bayC b v)), some (Blk.row [AV.ptr (Pl.own (h.length + 4) 0)]),
    some (Blk.row [AV.int IntKind.i64 ↑s]), some (Blk.row [AV.int IntKind.i64 night]), some (Blk.loop 60 [(7, AV.ptr (Pl.own (List.length h + 1) 0)), (8, AV.ptr (Pl.own (List.length h + 2) 0)), (9, AV.ptr (Pl.own (List.length h + 3) 0)),
      (52, AV.fn (Fn.func 121) [] [AV.ptr (Pl.own (List.length h + 5) 0), AV.ptr (Pl.own (List.length h + 6) 0), AV.ptr (Pl.own (List.length h + 7) 0)])] #[53, 54] (codeAt (bodyOf 44) [1, 1, 1, 0, 1, 0, 0]) (codeAt (bodyOf 44) [1, 1, 1, 0, 1, 0, 1]) st pd)] := ⟨_, rfl⟩
  have hInv : ∀ w st pd, IterInv w0 b v s night (h.length + 4) (h.length + 5) (h.length + 6) (h.length + 7) (Hf w st pd) := fun w st pd => by
    subst hHf
    exact ⟨by simp, by simp, by simp, by simp, hR.app, HB_app hb (by simp [HBs_some, HBs_none, HBs_nil, FB_cons, FB_nil, row_bdd, AV.bdds, AV.bdd, Pl.bdd, loop_bddT, hR.bdd])⟩
  have hlen : ∀ w st pd, (Hf w st pd).length = h.length + 9 := fun w st pd => by subst hHf; simp
  have hIt : ∀ (us : List UseD) (t0 : Nat) (w : WearD), t0 ≤ d → d < t0 + us.length → aftL (kindOf b s) w (us.take (d - t0 + 1)) = W →
      Iter Try.prog w0 (h.length + 8) (IterInv w0 b v s night (h.length + 4) (h.length + 5) (h.length + 6) (h.length + 7)) (fun h' => h' = Hf W .done (some .ret)) (daysL (kindOf b s) us t0 w) (Hf noWear .ready none) := by
    intro us
    induction us with
    | nil => intro t0 w h1 h2 _; simp at h2; omega
    | cons u us ih =>
      intro t0 w h1 h2 h3
      simp only [daysL, Iter]
      have hbf : ∀ w st pd x, HB (Hf w st pd ++ [some (.row (WearD.c x))]) := fun w st pd x => HB_app (hInv _ _ _).hb (by simp [HBs_some, HBs_none, HBs_nil, FB_cons, FB_nil, row_bdd, AV.bdds, AV.bdd, Pl.bdd, loop_bddT])
      refine AYield_drop (AYield_sx (psl := [53, 54]) hmix rfl R44_0a_g R44_0b_g R44_0a.eq_1 R44_0b.eq_1 (nt := 60) (fr0 := _) (ca := _) (cb := _) (by subst hHf; simp; rfl) rfl hps hca hcb fun hb2 ha2 => ?_)
      simp only [hHf]
      simp only [go_sem, ↓reduceIte, Nat.reduceEqDiff, Nat.reduceAdd, Nat.reduceSub, Nat.reduceMul, Nat.reduceLT, Nat.reduceLeDiff, Int.reduceLE, Int.reduceLT, Int.reduceAdd, Int.reduceSub, Int.reduceMul, Int.reduceEq, Int.reduceBEq, Int.reduceBNe, Int.reduceNeg, Int.reduceToNat, reduceCtorEq]
      refine ⟨fun e => ?_, fun e => ?_⟩
      · have ed : t0 = d := by omega
        have hW : growS (kindOf b s) w u = W := by rw [← h3, ed, Nat.sub_self]; rfl
        rw [hW]
        exact ⟨Hf W .done (some .ret) ++ [some (.row W.c)], [some (.row W.c)], by simp [hHf, WearD.c, bayC], by simp [hHf], hbf _ _ _ _, trivial, Hf W .done (some .ret), rfl, by simp [hHf], hInv _ _ _, .inr (by rw [hHf]; rfl)⟩
      · have ht : t0 < d := by
          rcases Nat.eq_or_lt_of_le h1 with x | x
          · exact absurd (by omega) e
          · exact x
        have := ih (t0 + 1) (growS (kindOf b s) w u) ht (by simp at h2; omega) (by
          rw [← h3, show d - t0 + 1 = (d - (t0 + 1) + 1) + 1 by omega, List.take_succ_cons]; rfl)
        simp only [hHf] at this
        exact ⟨Hf noWear .ready none ++ [some (.row (growS (kindOf b s) w u).c)], [some (.row (growS (kindOf b s) w u).c)], by simp [hHf, WearD.c, bayC, noWear], by simp [hHf], hbf _ _ _ _, trivial, Hf noWear .ready none, rfl, by simp [hHf], hInv _ _ _, .inl (by rw [hHf]; exact this)⟩
  have key := iter_c b v s night (h.length + 8) (h.length + 4) (h.length + 5) (h.length + 6) (h.length + 7) e1 (by omega) (by omega) (by omega) _ (hInv noWear .ready none) (by rw [hlen]; omega)
    (hIt _ _ _ (by omega) (by rw [List.length_drop]; omega) (by rw [eW, afterD, show d - (night + 1).toNat + 1 = ((d : Int) - night).toNat by omega]))
  simp only [hHf] at key
  refine key.mono fun v' h' hk => ?_
  subst hk
  simp only [go_sem, ↓reduceIte, Nat.reduceEqDiff, Nat.reduceAdd, Nat.reduceSub, Nat.reduceMul, Nat.reduceLT, Nat.reduceLeDiff, Int.reduceLE, Int.reduceLT, Int.reduceAdd, Int.reduceSub, Int.reduceMul, Int.reduceEq, Int.reduceBEq, Int.reduceBNe, Int.reduceNeg, Int.reduceToNat, reduceCtorEq]
  simp [AfterV, e1, e2, e3, e4, eW, WearD.c]
end Go.Proofs.Ab

namespace Go.Proofs.Ab
open Go Go.Proofs
variable {w0 : World} {h : Heap}
attribute [local irreducible] ACall ACallV AYield DCall DCallV rvC rdC lp rg dr ex un rv rd'

def lastR (en : Span → Int) (b : BayD) (s : Nat) (night : Int) : Nat → Int
  | 0 => night
  | j + 1 => if decide (lastR en b s night j = night + j) && withinB en (kindOf b s) (afterD b s night (night + 1 + j)) then night + 1 + j else lastR en b s night j

theorem daysL_snoc {k : KindD} {u : UseD} : ∀ {us : List UseD} {t : Nat} {w : WearD}, daysL k (us ++ [u]) t w = daysL k us t w ++ [(t + us.length, growS k (aftL k w us) u)]
  | [], t, w => rfl
  | x :: us, t, w => by
    have := daysL_snoc (k := k) (u := u) (us := us) (t := t + 1) (w := growS k w x)
    simp only [List.cons_append, daysL, this, List.length_cons, aftL, List.foldl_cons, show t + 1 + us.length = t + (us.length + 1) by omega]
theorem lastL_snoc {en : Span → Int} {k : KindD} {x : Nat × WearD} : ∀ {l : List (Nat × WearD)} {last : Int}, lastL en k (l ++ [x]) last = if (l.all fun y => withinB en k y.2) && withinB en k x.2 then (x.1 : Int) else lastL en k l last
  | [], last => by simp [lastL]
  | y :: l, last => by
    have := lastL_snoc (en := en) (k := k) (x := x) (l := l) (last := y.1)
    simp only [List.cons_append, lastL, List.all_cons]
    by_cases e : withinB en k y.2 = true
    · simp only [e, if_true, this, Bool.true_and]
    · simp [e]
theorem daysL_len {k : KindD} : ∀ {us : List UseD} {t : Nat} {w : WearD}, (daysL k us t w).length = us.length
  | [], _, _ => rfl
  | _ :: us, _, _ => by simp [daysL, daysL_len (us := us)]
theorem lastR_eq {en : Span → Int} {b : BayD} {s : Nat} {night : Int} (hn : -1 ≤ night) (us : List UseD) (eus : us = b.days.drop (night + 1).toNat) (j : Nat) (hj : j ≤ us.length) :
    lastR en b s night j = lastL en (kindOf b s) (daysL (kindOf b s) (us.take j) (night + 1).toNat (beginW b s night)) night ∧
    (lastR en b s night j = night + j ↔ ((daysL (kindOf b s) (us.take j) (night + 1).toNat (beginW b s night)).all fun y => withinB en (kindOf b s) y.2) = true) := by
  induction j with
  | zero => simp [lastR, daysL, lastL]
  | succ j ih =>
    have hj' : j < us.length := by omega
    obtain ⟨i1, i2⟩ := ih (by omega)
    have hlen : (us.take j).length = j := by simp; omega
    have hle : lastR en b s night j ≤ night + j := by
      clear i1 i2 ih
      induction j with
      | zero => simp [lastR]
      | succ j ih =>
        have := ih (by omega) (by omega) (by simp; omega)
        simp only [lastR]
        split <;> omega
    have haf : growS (kindOf b s) (aftL (kindOf b s) (beginW b s night) (us.take j)) us[j] = afterD b s night (night + 1 + j) := by
      have : (night + 1 + (j : Int) - night).toNat = j + 1 := by omega
      rw [afterD, this, ← eus, take_succ' hj', aftL, aftL, List.foldl_append]; rfl
    rw [take_succ' hj', daysL_snoc, lastL_snoc, hlen, haf]
    have ht : (((night + 1).toNat + j : Nat) : Int) = night + 1 + j := by omega
    rw [i1] at hle
    simp only [lastR, List.all_append, List.all_cons, List.all_nil, Bool.and_true]
    rw [ht, ← i1]
    rw [← i1] at hle
    by_cases hall : ((daysL (kindOf b s) (us.take j) (night + 1).toNat (beginW b s night)).all fun y => withinB en (kindOf b s) y.2) = true
    · have h1 := i2.2 hall
      simp only [hall, h1, decide_true, Bool.true_and, true_and]
      by_cases hw : withinB en (kindOf b s) (afterD b s night (night + 1 + j)) = true
      · simp [hw]; omega
      · simp [hw]
        omega
    · have h1 : ¬ lastR en b s night j = night + j := fun e => hall (i2.1 e)
      simp only [hall, h1, decide_false, Bool.false_and, Bool.false_eq_true, if_false, false_iff, true_and]
      refine ⟨fun e => ?_, False.elim⟩
      have : ((j + 1 : Nat) : Int) = j + 1 := by omega
      omega
theorem lastR_lasts {en : Span → Int} {b : BayD} {s : Nat} {night : Int} (hn : -1 ≤ night) (hn2 : night < b.days.length) : lastR en b s night ((b.days.length : Int) - night - 1).toNat = lastsD en b s night := by
  have := (lastR_eq (en := en) (b := b) (s := s) hn _ rfl ((b.days.length : Int) - night - 1).toNat (by rw [List.length_drop]; omega)).1
  rw [this, lastsD, List.take_of_length_le (by rw [List.length_drop]; omega)]

theorem rlasts_c (b : BayD) (v : BayV) (s : Nat) (night : Int) (hR : BayR w0 h b v) (hB : bayB b = true) (hs : s < b.slots.length) (hn : -1 ≤ night) (hn2 : night < b.days.length) :
    DCall Try.prog w0 47 [.agg (bayC b v), .int .i64 s, .int .i64 night] h (.tup [.int .i64 (lastsD Span.high b s night), .int .i64 (lastsD Span.low b s night)]) h := by
  refine DCall_quiet hmix mf47_ok mf47_b mf47_g (Nat.le_of_ble_eq_true rfl) (by simp [AV.bdd, AV.bdds]) fun hb ha => ex_in ?_
  have bs := bayB_spec hB
  have o1 := hR.kinds.one.1
  have o2 := hR.slots.one.1
  have o3 := hR.days.one.1
  have o4 := hR.nights.one.1
  have o5 := hR.defs.one.1
  have l2 := hR.days.use.1
  simp only [List.length_map] at l2
  simp only [go_sem, mf47, o1, o2, o3, o4, o5, ↓reduceIte, Nat.reduceEqDiff, Nat.reduceAdd, Nat.reduceSub, Nat.reduceMul, Nat.reduceLT, Nat.reduceLeDiff, Int.reduceLE, Int.reduceLT, Int.reduceAdd, Int.reduceSub, Int.reduceMul, Int.reduceEq, Int.reduceBEq, Int.reduceBNe, Int.reduceNeg, Int.reduceToNat, reduceCtorEq]
  refine ⟨(by unfold I64; omega), ?_⟩
  obtain ⟨n, en⟩ : ∃ n, n = ((b.days.length : Int) - night - 1).toNat := ⟨_, rfl⟩
  refine lp_for (S := Unit) (fun j _ => [(1, .int .i64 s), (2, .int .i64 night), (3, .ptr (.own h.length 0)), (8, .int .i64 (lastR Span.high b s night j)), (9, .int .i64 (lastR Span.low b s night j)), (10, .int .i64 (night + 1 + j))])
    (fun _ _ => h ++ [some (.row (bayC b v))]) (fun _ _ => True) n () trivial (by simp [lastR]) (by simp [bayC]) (fun j _ hj _ ih => ?_) (fun _ _ => ?_)
  · refine lp_step hmix L47_0_g [1, 2, 3, 8, 9, 10] L47_0.eq_1 ?_
    have m1 : night + 1 + (j : Int) < b.days.length := by omega
    have ih := ih () trivial
    have hst : ∀ en, lastR en b s night (j + 1) = if decide (lastR en b s night j = night + j) && withinB en (kindOf b s) (afterD b s night (night + 1 + j)) then night + 1 + j else lastR en b s night j := fun en => rfl
    rw [hst, hst] at ih
    generalize lastR Span.high b s night j = a at ih ⊢
    generalize lastR Span.low b s night j = c at ih ⊢
    simp only [go_sem, l2, m1, ↓reduceIte, Nat.reduceEqDiff, Nat.reduceAdd, Nat.reduceSub, Nat.reduceMul, Nat.reduceLT, Nat.reduceLeDiff, Int.reduceLE, Int.reduceLT, Int.reduceAdd, Int.reduceSub, Int.reduceMul, Int.reduceEq, Int.reduceBEq, Int.reduceBNe, Int.reduceNeg, Int.reduceToNat, reduceCtorEq]
    refine rvC_use (rafter_c b v s night (night + 1 + j) hR.app hB hs hn (by omega) (by omega)).v ?_
    generalize afterD b s night (night + 1 + j) = w at ih ⊢
    have he : ∀ x : Int, decide (x = night + j) = (x == night + 1 + j - 1) := fun x => by
      rw [ieq, show night + 1 + (j : Int) - 1 = night + j by omega]
    simp only [he] at ih
    obtain ⟨a', ea'⟩ : ∃ a', a' = if (a == night + 1 + (j : Int) - 1) && withinB Span.high (kindOf b s) w then night + 1 + (j : Int) else a := ⟨_, rfl⟩
    obtain ⟨c', ec'⟩ : ∃ c', c' = if (c == night + 1 + (j : Int) - 1) && withinB Span.low (kindOf b s) w then night + 1 + (j : Int) else c := ⟨_, rfl⟩
    rw [← ea', ← ec'] at ih
    have hjj : night + 1 + ((j + 1 : Nat) : Int) = night + 1 + j + 1 := by omega
    rw [hjj] at ih
    have ih3 := lp_drop (P := Try.prog) (w0 := w0) (r := none) (nt := 54) (Q := quietK w0 [RV.t 6, RV.t 7] h (AV.tup [AV.int IntKind.i64 (lastsD Span.high b s night), AV.int IntKind.i64 (lastsD Span.low b s night)])) (a := L47_0) (l := [some (.row (bayC b v)), some (.row w.c)]) 1 hb (by simp [HBs_some, HBs_none, HBs_nil, FB_cons, FB_nil, row_bdd, AV.bdds, AV.bdd, Pl.bdd, loop_bddT, hR.kinds.bdd, hR.slots.bdd, hR.days.bdd, hR.nights.bdd, hR.defs.bdd, bayC]) (by simp [HBs_some, HBs_none, HBs_nil, FB_cons, FB_nil, row_bdd, AV.bdds, AV.bdd, Pl.bdd, loop_bddT]) ih
    clear ih
    cases ea : (a == night + 1 + (j : Int) - 1) <;> cases ec : (c == night + 1 + (j : Int) - 1) <;> cases hw1 : withinB Span.high (kindOf b s) w <;> cases hw2 : withinB Span.low (kindOf b s) w
    all_goals
      rw [ea, hw1] at ea'
      rw [ec, hw2] at ec'
      simp only [Bool.and_self, Bool.and_false, Bool.false_and, Bool.false_eq_true, if_false, if_true] at ea' ec'
      subst ea'
      subst ec'
      simp only [go_sem, ea, ec, ↓reduceIte, Nat.reduceEqDiff, Nat.reduceAdd, Nat.reduceSub, Nat.reduceMul, Nat.reduceLT, Nat.reduceLeDiff, Int.reduceLE, Int.reduceLT, Int.reduceAdd, Int.reduceSub, Int.reduceMul, Int.reduceEq, Int.reduceBEq, Int.reduceBNe, Int.reduceNeg, Int.reduceToNat, reduceCtorEq]
      repeat' first | (refine And.intro (by unfold I64; omega) ?_) | (refine rdC_q (rkindOf_c b v s hR.app hB hs).v ?_; simp only [go_sem, ec, ↓reduceIte, Nat.reduceEqDiff, Nat.reduceAdd, Nat.reduceSub, Nat.reduceMul, Nat.reduceLT, Nat.reduceLeDiff, Int.reduceLE, Int.reduceLT, Int.reduceAdd, Int.reduceSub, Int.reduceMul, Int.reduceEq, Int.reduceBEq, Int.reduceBNe, Int.reduceNeg, Int.reduceToNat, reduceCtorEq]) | (refine rdC_q (rsure_c _ _).v ?_; simp only [go_sem, hw1, ec, ↓reduceIte, Nat.reduceEqDiff, Nat.reduceAdd, Nat.reduceSub, Nat.reduceMul, Nat.reduceLT, Nat.reduceLeDiff, Int.reduceLE, Int.reduceLT, Int.reduceAdd, Int.reduceSub, Int.reduceMul, Int.reduceEq, Int.reduceBEq, Int.reduceBNe, Int.reduceNeg, Int.reduceToNat, reduceCtorEq]) | (refine rdC_q (rmay_c _ _).v ?_; simp only [go_sem, hw2, ↓reduceIte, Nat.reduceEqDiff, Nat.reduceAdd, Nat.reduceSub, Nat.reduceMul, Nat.reduceLT, Nat.reduceLeDiff, Int.reduceLE, Int.reduceLT, Int.reduceAdd, Int.reduceSub, Int.reduceMul, Int.reduceEq, Int.reduceBEq, Int.reduceBNe, Int.reduceNeg, Int.reduceToNat, reduceCtorEq])
      simpa [bayC, WearD.c] using ih3
  · refine lp_step hmix L47_0_g [1, 2, 3, 8, 9, 10] L47_0.eq_1 ?_
    have m1 : ¬ night + 1 + (n : Int) < b.days.length := by omega
    simp only [go_sem, l2, m1, ↓reduceIte, Nat.reduceEqDiff, Nat.reduceAdd, Nat.reduceSub, Nat.reduceMul, Nat.reduceLT, Nat.reduceLeDiff, Int.reduceLE, Int.reduceLT, Int.reduceAdd, Int.reduceSub, Int.reduceMul, Int.reduceEq, Int.reduceBEq, Int.reduceBNe, Int.reduceNeg, Int.reduceToNat, reduceCtorEq]
    rw [en, lastR_lasts hn hn2, lastR_lasts hn hn2]
end Go.Proofs.Ab

namespace Go.Proofs.Ab
open Go Go.Proofs
variable {w0 : World} {h : Heap}
attribute [local irreducible] ACall ACallV AYield DCall DCallV rvC rdC lp rg dr ex un rv rd'

theorem WearLasts_c (b : BayD) (v : BayV) (slot night day : Int) (hS : BayS w0 h b v) : DCall Try.prog w0 11 [.agg (bayC b v), .int .i64 slot, .int .i64 night, .int .i64 day] h (.bool true) h := by
  refine DCall_quiet hmix mf11_ok mf11_b mf11_g (Nat.le_of_ble_eq_true rfl) (by simp [AV.bdd, AV.bdds]) fun hb ha => ex_in ?_
  have o1 := hS.kinds.one.1
  have o2 := hS.slots.one.1
  have o3 := hS.days.one.1
  have o4 := hS.nights.one.1
  have o5 := hS.defs.one.1
  have l1 := hS.slots.use.1
  have l2 := hS.days.use.1
  simp only [List.length_map] at l1 l2
  simp only [go_sem, mf11, o1, o2, o3, o4, o5, ↓reduceIte, Nat.reduceEqDiff, Nat.reduceAdd, Nat.reduceSub, Nat.reduceMul, Nat.reduceLT, Nat.reduceLeDiff, Int.reduceLE, Int.reduceLT, Int.reduceAdd, Int.reduceSub, Int.reduceMul, Int.reduceEq, Int.reduceBEq, Int.reduceBNe, Int.reduceNeg, Int.reduceToNat, reduceCtorEq]
  refine rvC_use (short_c b v hS.app).v ?_
  simp only [go_sem, ↓reduceIte, Nat.reduceEqDiff, Nat.reduceAdd, Nat.reduceSub, Nat.reduceMul, Nat.reduceLT, Nat.reduceLeDiff, Int.reduceLE, Int.reduceLT, Int.reduceAdd, Int.reduceSub, Int.reduceMul, Int.reduceEq, Int.reduceBEq, Int.reduceBNe, Int.reduceNeg, Int.reduceToNat, reduceCtorEq]
  refine ⟨fun e1 => ?_, fun e1 => ?_⟩
  · refine rvC_use known_c.v ?_
    simp only [go_sem, ↓reduceIte, Nat.reduceEqDiff, Nat.reduceAdd, Nat.reduceSub, Nat.reduceMul, Nat.reduceLT, Nat.reduceLeDiff, Int.reduceLE, Int.reduceLT, Int.reduceAdd, Int.reduceSub, Int.reduceMul, Int.reduceEq, Int.reduceBEq, Int.reduceBNe, Int.reduceNeg, Int.reduceToNat, reduceCtorEq]
  have hR := hS.R e1
  refine rvC_use (rbay_c b v hR.app).v ?_
  simp only [go_sem, ↓reduceIte, Nat.reduceEqDiff, Nat.reduceAdd, Nat.reduceSub, Nat.reduceMul, Nat.reduceLT, Nat.reduceLeDiff, Int.reduceLE, Int.reduceLT, Int.reduceAdd, Int.reduceSub, Int.reduceMul, Int.reduceEq, Int.reduceBEq, Int.reduceBNe, Int.reduceNeg, Int.reduceToNat, reduceCtorEq]
  refine rvC_use (Check_c b v hR.app).v ?_
  have hA := After_c (w0 := w0) (h := h ++ [some (.row (bayC b v))]) b v slot night day hR.app
  obtain ⟨ww, eww⟩ : ∃ ww : WearD, ww = if bayB b && inB slot 0 (b.slots.length - 1) && inB night (-1) (b.days.length - 1) && inB day (night + 1) (b.days.length - 1) then afterD b slot.toNat night day else noWear := ⟨_, rfl⟩
  obtain ⟨we, ewe⟩ : ∃ we : Int, we = if bayB b && inB slot 0 (b.slots.length - 1) && inB night (-1) (b.days.length - 1) && inB day (night + 1) (b.days.length - 1) then 0 else 2 := ⟨_, rfl⟩
  have hA' : AfterV b slot night day = .tup [.agg ww.c, .int .i64 we] := by
    rw [AfterV, eww, ewe]; split <;> rfl
  rw [hA'] at hA
  have hrest : ∀ (L : Heap), DCall Try.prog w0 43 [.agg (bayC b v), .int .i64 slot, .int .i64 night] (h ++ L) (LastsV b slot night) (h ++ L) := fun L => Lasts_c b v slot night hR.app
  by_cases eb : bayB b = true
  · rw [if_pos eb]
    simp only [go_sem, eb, ↓reduceIte, Nat.reduceEqDiff, Nat.reduceAdd, Nat.reduceSub, Nat.reduceMul, Nat.reduceLT, Nat.reduceLeDiff, Int.reduceLE, Int.reduceLT, Int.reduceAdd, Int.reduceSub, Int.reduceMul, Int.reduceEq, Int.reduceBEq, Int.reduceBNe, Int.reduceNeg, Int.reduceToNat, reduceCtorEq]
    refine rvC_use hA.v ?_
    simp only [go_sem, ↓reduceIte, Nat.reduceEqDiff, Nat.reduceAdd, Nat.reduceSub, Nat.reduceMul, Nat.reduceLT, Nat.reduceLeDiff, Int.reduceLE, Int.reduceLT, Int.reduceAdd, Int.reduceSub, Int.reduceMul, Int.reduceEq, Int.reduceBEq, Int.reduceBNe, Int.reduceNeg, Int.reduceToNat, reduceCtorEq]
    by_cases f2 : inB slot 0 (b.slots.length - 1) = true
    · by_cases f3 : inB night (-1) (b.days.length - 1) = true
      · have hL : LastsV b slot night = .tup [.int .i64 (lastsD Span.high b slot.toNat night), .int .i64 (lastsD Span.low b slot.toNat night), .int .i64 0] := by simp [LastsV, eb, f2, f3]
        rw [hL] at hrest
        refine rvC_use (hrest _).v ?_
        have g2 := f2
        have g3 := f3
        simp only [inB, Bool.and_eq_true, decide_eq_true_eq] at g2 g3
        obtain ⟨s, rfl⟩ : ∃ s : Nat, slot = s := ⟨slot.toNat, by omega⟩
        have m1 : (0 : Int) ≤ s := by omega
        have m2 : (s : Int) < b.slots.length := by omega
        have m3 : -1 ≤ night := by omega
        have m4 : night < b.days.length := by omega
        simp only [go_sem, l1, l2, m1, m2, m3, m4, ↓reduceIte, Nat.reduceEqDiff, Nat.reduceAdd, Nat.reduceSub, Nat.reduceMul, Nat.reduceLT, Nat.reduceLeDiff, Int.reduceLE, Int.reduceLT, Int.reduceAdd, Int.reduceSub, Int.reduceMul, Int.reduceEq, Int.reduceBEq, Int.reduceBNe, Int.reduceNeg, Int.reduceToNat, reduceCtorEq]
        refine rvC_use (rlasts_c b v s night hR.app eb (by omega) m3 m4).v ?_
        simp only [go_sem, l2, Int.toNat_natCast, bne_self_eq_false, ↓reduceIte, Nat.reduceEqDiff, Nat.reduceAdd, Nat.reduceSub, Nat.reduceMul, Nat.reduceLT, Nat.reduceLeDiff, Int.reduceLE, Int.reduceLT, Int.reduceAdd, Int.reduceSub, Int.reduceMul, Int.reduceEq, Int.reduceBEq, Int.reduceBNe, Int.reduceNeg, Int.reduceToNat, reduceCtorEq]
        by_cases f4 : inB day (night + 1) (b.days.length - 1) = true
        · have g4 := f4
          simp only [inB, Bool.and_eq_true, decide_eq_true_eq] at g4
          have m5 : ¬ day ≤ night := by omega
          have m6 : ¬ (b.days.length : Int) ≤ day := by omega
          have ewe' : we = 0 := by rw [ewe]; simp [eb, f2, f3, f4]
          have eww' : ww = afterD b s night day := by rw [eww]; simp [eb, f2, f3, f4]
          simp only [go_sem, m5, m6, ewe', ↓reduceIte, Nat.reduceEqDiff, Nat.reduceAdd, Nat.reduceSub, Nat.reduceMul, Nat.reduceLT, Nat.reduceLeDiff, Int.reduceLE, Int.reduceLT, Int.reduceAdd, Int.reduceSub, Int.reduceMul, Int.reduceEq, Int.reduceBEq, Int.reduceBNe, Int.reduceNeg, Int.reduceToNat, reduceCtorEq]
          refine rdC_q (rafter_c b v s night day hR.app eb (by omega) m3 (by omega) (by omega)).v ?_
          rw [eww']
          simp only [go_sem, ↓reduceIte, Nat.reduceEqDiff, Nat.reduceAdd, Nat.reduceSub, Nat.reduceMul, Nat.reduceLT, Nat.reduceLeDiff, Int.reduceLE, Int.reduceLT, Int.reduceAdd, Int.reduceSub, Int.reduceMul, Int.reduceEq, Int.reduceBEq, Int.reduceBNe, Int.reduceNeg, Int.reduceToNat, reduceCtorEq]
          refine rdC_q known_c.v ?_
          simp only [go_sem, ↓reduceIte, Nat.reduceEqDiff, Nat.reduceAdd, Nat.reduceSub, Nat.reduceMul, Nat.reduceLT, Nat.reduceLeDiff, Int.reduceLE, Int.reduceLT, Int.reduceAdd, Int.reduceSub, Int.reduceMul, Int.reduceEq, Int.reduceBEq, Int.reduceBNe, Int.reduceNeg, Int.reduceToNat, reduceCtorEq]
        · have ewe' : we = 2 := by rw [ewe]; simp [eb, f2, f3, f4]
          have eww' : ww = noWear := by rw [eww]; simp [eb, f2, f3, f4]
          simp only [inB, Bool.and_eq_true, decide_eq_true_eq] at f4
          subst ewe'
          subst eww'
          simp only [go_sem, noWear, ↓reduceIte, Nat.reduceEqDiff, Nat.reduceAdd, Nat.reduceSub, Nat.reduceMul, Nat.reduceLT, Nat.reduceLeDiff, Int.reduceLE, Int.reduceLT, Int.reduceAdd, Int.reduceSub, Int.reduceMul, Int.reduceEq, Int.reduceBEq, Int.reduceBNe, Int.reduceNeg, Int.reduceToNat, reduceCtorEq]
          refine ⟨fun e => ⟨fun e2 => ?_, fun e2 => by omega⟩, fun e => ?_⟩
          · refine rvC_use known_c.v ?_
            simp only [go_sem, ↓reduceIte, Nat.reduceEqDiff, Nat.reduceAdd, Nat.reduceSub, Nat.reduceMul, Nat.reduceLT, Nat.reduceLeDiff, Int.reduceLE, Int.reduceLT, Int.reduceAdd, Int.reduceSub, Int.reduceMul, Int.reduceEq, Int.reduceBEq, Int.reduceBNe, Int.reduceNeg, Int.reduceToNat, reduceCtorEq]
          · refine rvC_use known_c.v ?_
            simp only [go_sem, ↓reduceIte, Nat.reduceEqDiff, Nat.reduceAdd, Nat.reduceSub, Nat.reduceMul, Nat.reduceLT, Nat.reduceLeDiff, Int.reduceLE, Int.reduceLT, Int.reduceAdd, Int.reduceSub, Int.reduceMul, Int.reduceEq, Int.reduceBEq, Int.reduceBNe, Int.reduceNeg, Int.reduceToNat, reduceCtorEq]
      · have hL : LastsV b slot night = .tup [.int .i64 0, .int .i64 0, .int .i64 2] := by simp [LastsV, f3]
        rw [hL] at hrest
        have ewe' : we = 2 := by rw [ewe]; simp [f3]
        have eww' : ww = noWear := by rw [eww]; simp [f3]
        simp only [inB, Bool.and_eq_true, decide_eq_true_eq] at f2 f3
        subst ewe'
        subst eww'
        refine rvC_use (hrest _).v ?_
        have m1 : (0 : Int) ≤ slot := by omega
        have m2 : slot < b.slots.length := by omega
        by_cases m3 : -1 ≤ night
        · have m4 : ¬ night < b.days.length := by omega
          simp only [go_sem, l1, l2, m1, m2, m3, m4, noWear, ↓reduceIte, Nat.reduceEqDiff, Nat.reduceAdd, Nat.reduceSub, Nat.reduceMul, Nat.reduceLT, Nat.reduceLeDiff, Int.reduceLE, Int.reduceLT, Int.reduceAdd, Int.reduceSub, Int.reduceMul, Int.reduceEq, Int.reduceBEq, Int.reduceBNe, Int.reduceNeg, Int.reduceToNat, reduceCtorEq]
          refine rvC_use known_c.v ?_
          simp only [go_sem, ↓reduceIte, Nat.reduceEqDiff, Nat.reduceAdd, Nat.reduceSub, Nat.reduceMul, Nat.reduceLT, Nat.reduceLeDiff, Int.reduceLE, Int.reduceLT, Int.reduceAdd, Int.reduceSub, Int.reduceMul, Int.reduceEq, Int.reduceBEq, Int.reduceBNe, Int.reduceNeg, Int.reduceToNat, reduceCtorEq]
        · simp only [go_sem, l1, l2, m1, m2, m3, noWear, ↓reduceIte, Nat.reduceEqDiff, Nat.reduceAdd, Nat.reduceSub, Nat.reduceMul, Nat.reduceLT, Nat.reduceLeDiff, Int.reduceLE, Int.reduceLT, Int.reduceAdd, Int.reduceSub, Int.reduceMul, Int.reduceEq, Int.reduceBEq, Int.reduceBNe, Int.reduceNeg, Int.reduceToNat, reduceCtorEq]
          refine rvC_use known_c.v ?_
          simp only [go_sem, ↓reduceIte, Nat.reduceEqDiff, Nat.reduceAdd, Nat.reduceSub, Nat.reduceMul, Nat.reduceLT, Nat.reduceLeDiff, Int.reduceLE, Int.reduceLT, Int.reduceAdd, Int.reduceSub, Int.reduceMul, Int.reduceEq, Int.reduceBEq, Int.reduceBNe, Int.reduceNeg, Int.reduceToNat, reduceCtorEq]
    · have hL : LastsV b slot night = .tup [.int .i64 0, .int .i64 0, .int .i64 2] := by simp [LastsV, f2]
      rw [hL] at hrest
      have ewe' : we = 2 := by rw [ewe]; simp [f2]
      have eww' : ww = noWear := by rw [eww]; simp [f2]
      simp only [inB, Bool.and_eq_true, decide_eq_true_eq] at f2
      subst ewe'
      subst eww'
      refine rvC_use (hrest _).v ?_
      by_cases m1 : 0 ≤ slot
      · have m2 : ¬ slot < b.slots.length := by omega
        simp only [go_sem, l1, l2, m1, m2, noWear, ↓reduceIte, Nat.reduceEqDiff, Nat.reduceAdd, Nat.reduceSub, Nat.reduceMul, Nat.reduceLT, Nat.reduceLeDiff, Int.reduceLE, Int.reduceLT, Int.reduceAdd, Int.reduceSub, Int.reduceMul, Int.reduceEq, Int.reduceBEq, Int.reduceBNe, Int.reduceNeg, Int.reduceToNat, reduceCtorEq]
        refine rvC_use known_c.v ?_
        simp only [go_sem, ↓reduceIte, Nat.reduceEqDiff, Nat.reduceAdd, Nat.reduceSub, Nat.reduceMul, Nat.reduceLT, Nat.reduceLeDiff, Int.reduceLE, Int.reduceLT, Int.reduceAdd, Int.reduceSub, Int.reduceMul, Int.reduceEq, Int.reduceBEq, Int.reduceBNe, Int.reduceNeg, Int.reduceToNat, reduceCtorEq]
      · simp only [go_sem, l1, l2, m1, noWear, ↓reduceIte, Nat.reduceEqDiff, Nat.reduceAdd, Nat.reduceSub, Nat.reduceMul, Nat.reduceLT, Nat.reduceLeDiff, Int.reduceLE, Int.reduceLT, Int.reduceAdd, Int.reduceSub, Int.reduceMul, Int.reduceEq, Int.reduceBEq, Int.reduceBNe, Int.reduceNeg, Int.reduceToNat, reduceCtorEq]
        refine rvC_use known_c.v ?_
        simp only [go_sem, ↓reduceIte, Nat.reduceEqDiff, Nat.reduceAdd, Nat.reduceSub, Nat.reduceMul, Nat.reduceLT, Nat.reduceLeDiff, Int.reduceLE, Int.reduceLT, Int.reduceAdd, Int.reduceSub, Int.reduceMul, Int.reduceEq, Int.reduceBEq, Int.reduceBNe, Int.reduceNeg, Int.reduceToNat, reduceCtorEq]
  · have hL : LastsV b slot night = .tup [.int .i64 0, .int .i64 0, .int .i64 2] := by simp [LastsV, eb]
    rw [hL] at hrest
    have ewe' : we = 2 := by rw [ewe]; simp [eb]
    have eww' : ww = noWear := by rw [eww]; simp [eb]
    subst ewe'
    subst eww'
    rw [if_neg eb]
    simp only [Bool.not_eq_true] at eb
    simp only [go_sem, eb, ↓reduceIte, Nat.reduceEqDiff, Nat.reduceAdd, Nat.reduceSub, Nat.reduceMul, Nat.reduceLT, Nat.reduceLeDiff, Int.reduceLE, Int.reduceLT, Int.reduceAdd, Int.reduceSub, Int.reduceMul, Int.reduceEq, Int.reduceBEq, Int.reduceBNe, Int.reduceNeg, Int.reduceToNat, reduceCtorEq]
    refine rvC_use hA.v ?_
    simp only [go_sem, ↓reduceIte, Nat.reduceEqDiff, Nat.reduceAdd, Nat.reduceSub, Nat.reduceMul, Nat.reduceLT, Nat.reduceLeDiff, Int.reduceLE, Int.reduceLT, Int.reduceAdd, Int.reduceSub, Int.reduceMul, Int.reduceEq, Int.reduceBEq, Int.reduceBNe, Int.reduceNeg, Int.reduceToNat, reduceCtorEq]
    refine rvC_use (hrest _).v ?_
    simp only [go_sem, noWear, ↓reduceIte, Nat.reduceEqDiff, Nat.reduceAdd, Nat.reduceSub, Nat.reduceMul, Nat.reduceLT, Nat.reduceLeDiff, Int.reduceLE, Int.reduceLT, Int.reduceAdd, Int.reduceSub, Int.reduceMul, Int.reduceEq, Int.reduceBEq, Int.reduceBNe, Int.reduceNeg, Int.reduceToNat, reduceCtorEq]
    refine rvC_use known_c.v ?_
    simp only [go_sem, ↓reduceIte, Nat.reduceEqDiff, Nat.reduceAdd, Nat.reduceSub, Nat.reduceMul, Nat.reduceLT, Nat.reduceLeDiff, Int.reduceLE, Int.reduceLT, Int.reduceAdd, Int.reduceSub, Int.reduceMul, Int.reduceEq, Int.reduceBEq, Int.reduceBNe, Int.reduceNeg, Int.reduceToNat, reduceCtorEq]
end Go.Proofs.Ab

/- The own layer under the proofs of this seat, part Y: what calls of the program come to on an abstract heap. No condition. -/
import Derived.Test.YtammfjjepbekaaaX
set_option linter.unusedSimpArgs false
set_option linter.unusedVariables false
namespace Go.Proofs.Ab
open Go Go.Proofs
variable {w0 : World} {h : Heap}
attribute [local irreducible] ACall ACallV AYield DCall DCallV rvC rdC lp rg dr ex un rv rd'

def AfterV (b : BayD) (slot night day : Int) : AV :=
  if bayB b && inB slot 0 (b.slots.length - 1) && inB night (-1) (b.days.length - 1) && inB day (night + 1) (b.days.length - 1) then .tup [.agg (afterD b slot.toNat night day).c, .int .i64 0] else .tup [.agg noWear.c, .int .i64 2]

theorem After_c (b : BayD) (v : BayV) (slot night day : Int) (hR : BayR w0 h b v) : DCall Try.prog w0 44 [.agg (bayC b v), .int .i64 slot, .int .i64 night, .int .i64 day] h (AfterV b slot night day) h := by
  refine DCall_quiet hmix mf44_ok mf44_b mf44_g (Nat.le_of_ble_eq_true rfl) (by unfold AfterV; split <;> simp [AV.bdd, AV.bdds]) fun hb ha => ex_in ?_
  have o1 := hR.kinds.one
  have o2 := hR.slots.one
  have o3 := hR.days.one
  have o4 := hR.nights.one
  have o5 := hR.defs.one
  have l1 := hR.slots.use.1
  have l2 := hR.days.use.1
  have l3 := hR.len
  simp only [List.length_map] at l1 l2
  simp only [go_sem, mf44, o1.1, o2.1, o3.1, o4.1, o5.1, ↓reduceIte, Nat.reduceEqDiff, Nat.reduceAdd, Nat.reduceSub, Nat.reduceMul, Nat.reduceLT, Nat.reduceLeDiff, Int.reduceLE, Int.reduceLT, Int.reduceAdd, Int.reduceSub, Int.reduceMul, Int.reduceEq, Int.reduceBEq, Int.reduceBNe, Int.reduceNeg, Int.reduceToNat, reduceCtorEq]
  refine rvC_use (bay_c b v hR.app).v ?_
  simp only [go_sem, l1, l2, ↓reduceIte, Nat.reduceEqDiff, Nat.reduceAdd, Nat.reduceSub, Nat.reduceMul, Nat.reduceLT, Nat.reduceLeDiff, Int.reduceLE, Int.reduceLT, Int.reduceAdd, Int.reduceSub, Int.reduceMul, Int.reduceEq, Int.reduceBEq, Int.reduceBNe, Int.reduceNeg, Int.reduceToNat, reduceCtorEq]
  refine ⟨fun e1 => ⟨(by unfold I64; omega), ?_⟩, fun e1 => by simp [AfterV, e1, noWear, WearD.c]⟩
  refine rvC_use (in_c _ _ _).v ?_
  simp only [go_sem, l1, l2, ↓reduceIte, Nat.reduceEqDiff, Nat.reduceAdd, Nat.reduceSub, Nat.reduceMul, Nat.reduceLT, Nat.reduceLeDiff, Int.reduceLE, Int.reduceLT, Int.reduceAdd, Int.reduceSub, Int.reduceMul, Int.reduceEq, Int.reduceBEq, Int.reduceBNe, Int.reduceNeg, Int.reduceToNat, reduceCtorEq]
  refine ⟨fun e2 => ⟨(by unfold I64; omega), ?_⟩, fun e2 => by simp [AfterV, e1, e2, noWear, WearD.c]⟩
  refine rvC_use (in_c _ _ _).v ?_
  simp only [go_sem, l1, l2, ↓reduceIte, Nat.reduceEqDiff, Nat.reduceAdd, Nat.reduceSub, Nat.reduceMul, Nat.reduceLT, Nat.reduceLeDiff, Int.reduceLE, Int.reduceLT, Int.reduceAdd, Int.reduceSub, Int.reduceMul, Int.reduceEq, Int.reduceBEq, Int.reduceBNe, Int.reduceNeg, Int.reduceToNat, reduceCtorEq]
  refine ⟨fun e3 => ?_, fun e3 => by simp [AfterV, e1, e2, e3, noWear, WearD.c]⟩
  have f2 := e2
  have f3 := e3
  simp only [inB, Bool.and_eq_true, decide_eq_true_eq] at f2 f3
  refine ⟨(by unfold I64; omega), (by unfold I64; omega), ?_⟩
  refine rvC_use (in_c _ _ _).v ?_
  simp only [go_sem, o1.1, o2.1, o3.1, o4.1, o5.1, ↓reduceIte, Nat.reduceEqDiff, Nat.reduceAdd, Nat.reduceSub, Nat.reduceMul, Nat.reduceLT, Nat.reduceLeDiff, Int.reduceLE, Int.reduceLT, Int.reduceAdd, Int.reduceSub, Int.reduceMul, Int.reduceEq, Int.reduceBEq, Int.reduceBNe, Int.reduceNeg, Int.reduceToNat, reduceCtorEq]
  refine ⟨fun e4 => by simp [AfterV, e1, e2, e3, e4, noWear, WearD.c], fun e4 => ?_⟩
  have f4 := e4
  simp only [inB, Bool.and_eq_true, decide_eq_true_eq] at f4
  obtain ⟨s, rfl⟩ : ∃ s : Nat, slot = s := ⟨slot.toNat, by omega⟩
  obtain ⟨d, rfl⟩ : ∃ d : Nat, day = d := ⟨day.toNat, by omega⟩
  refine rvC_use (days_c (h.length + 4) (by simp) s night).v ?_
  simp only [go_sem, ↓reduceIte, Nat.reduceEqDiff, Nat.reduceAdd, Nat.reduceSub, Nat.reduceMul, Nat.reduceLT, Nat.reduceLeDiff, Int.reduceLE, Int.reduceLT, Int.reduceAdd, Int.reduceSub, Int.reduceMul, Int.reduceEq, Int.reduceBEq, Int.reduceBNe, Int.reduceNeg, Int.reduceToNat, reduceCtorEq]
  refine rg_keep [7, 8, 9, 52] ?_
  simp only [go_sem, ↓reduceIte, Nat.reduceEqDiff, Nat.reduceAdd, Nat.reduceSub, Nat.reduceMul, Nat.reduceLT, Nat.reduceLeDiff, Int.reduceLE, Int.reduceLT, Int.reduceAdd, Int.reduceSub, Int.reduceMul, Int.reduceEq, Int.reduceBEq, Int.reduceBNe, Int.reduceNeg, Int.reduceToNat, reduceCtorEq]
  refine rg_use (fid := 121) (first := []) rfl (.inl rfl) fun hca hcb hps => ?_
  simp only [go_sem, ↓reduceIte, Nat.reduceEqDiff, Nat.reduceAdd, Nat.reduceSub, Nat.reduceMul, Nat.reduceLT, Nat.reduceLeDiff, Int.reduceLE, Int.reduceLT, Int.reduceAdd, Int.reduceSub, Int.reduceMul, Int.reduceEq, Int.reduceBEq, Int.reduceBNe, Int.reduceNeg, Int.reduceToNat, reduceCtorEq]
  obtain ⟨W, eW⟩ : ∃ W, W = afterD b s night d := ⟨_, rfl⟩
  obtain ⟨Hf, hHf⟩ : ∃ Hf : WearD → LoopState → Option Code → Heap, Hf = fun w st pd => h ++ [some (Blk.row (bayC b v)), some (Blk.row [AV.int IntKind.i64 (d : Int)]), some (Blk.row w.c), some (Blk.row [AV.int IntKind.i64 0]), some (Blk.row (bayC b v)), some (Blk.row [AV.ptr (Pl.own (h.length + 4) 0)]),
    some (Blk.row [AV.int IntKind.i64 ↑s]), some (Blk.row [AV.int IntKind.i64 night]), some (Blk.loop 60 [(7, AV.ptr (Pl.own (List.length h + 1) 0)), (8, AV.ptr (Pl.own (List.length h + 2) 0)), (9, AV.ptr (Pl.own (List.length h + 3) 0)),
      (52, AV.fn (Fn.func 121) [] [AV.ptr (Pl.own (List.length h + 5) 0), AV.ptr (Pl.own (List.length h + 6) 0), AV.ptr (Pl.own (List.length h + 7) 0)])] #[53, 54] (codeAt (bodyOf 44) [1, 1, 1, 0, 1, 0, 0]) (codeAt (bodyOf 44) [1, 1, 1, 0, 1, 0, 1]) st pd)] := ⟨_, rfl⟩
  have hInv : ∀ w st pd, IterInv w0 b v s night (h.length + 4) (h.length + 5) (h.length + 6) (h.length + 7) (Hf w st pd) := fun w st pd => by
    subst hHf
    exact ⟨by simp, by simp, by simp, by simp, hR.app, HB_app hb (by simp [HBs_some, HBs_none, HBs_nil, FB_cons, FB_nil, row_bdd, AV.bdds, AV.bdd, Pl.bdd, loop_bddT, hR.bdd])⟩
  have hlen : ∀ w st pd, (Hf w st pd).length = h.length + 9 := fun w st pd => by subst hHf; simp
  have hIt : ∀ (us : List UseD) (t0 : Nat) (w : WearD), t0 ≤ d → d < t0 + us.length → aftL (kindOf b s) w (us.take (d - t0 + 1)) = W →
      Iter Try.prog w0 (h.length + 8) (IterInv w0 b v s night (h.length + 4) (h.length + 5) (h.length + 6) (h.length + 7)) (fun h' => h' = Hf W .done (some .ret)) (daysL (kindOf b s) us t0 w) (Hf noWear .ready none) := by
    intro us
    induction us with
    | nil => intro t0 w h1 h2 _; simp at h2; omega
    | cons u us ih =>
      intro t0 w h1 h2 h3
      simp only [daysL, Iter]
      have hbf : ∀ w st pd x, HB (Hf w st pd ++ [some (.row (WearD.c x))]) := fun w st pd x => HB_app (hInv _ _ _).hb (by simp [HBs_some, HBs_none, HBs_nil, FB_cons, FB_nil, row_bdd, AV.bdds, AV.bdd, Pl.bdd, loop_bddT])
      refine AYield_drop (AYield_sx (psl := [53, 54]) hmix rfl R44_0a_g R44_0b_g R44_0a.eq_1 R44_0b.eq_1 (nt := 60) (fr0 := _) (ca := _) (cb := _) (by subst hHf; simp; rfl) rfl hps hca hcb fun hb2 ha2 => ?_)
      simp only [hHf]
      simp only [go_sem, ↓reduceIte, Nat.reduceEqDiff, Nat.reduceAdd, Nat.reduceSub, Nat.reduceMul, Nat.reduceLT, Nat.reduceLeDiff, Int.reduceLE, Int.reduceLT, Int.reduceAdd, Int.reduceSub, Int.reduceMul, Int.reduceEq, Int.reduceBEq, Int.reduceBNe, Int.reduceNeg, Int.reduceToNat, reduceCtorEq]
      refine ⟨fun e => ?_, fun e => ?_⟩
      · have ed : t0 = d := by omega
        have hW : growS (kindOf b s) w u = W := by rw [← h3, ed, Nat.sub_self]; rfl
        rw [hW]
        exact ⟨Hf W .done (some .ret) ++ [some (.row W.c)], [some (.row W.c)], by simp [hHf, WearD.c, bayC], by simp [hHf], hbf _ _ _ _, trivial, Hf W .done (some .ret), rfl, by simp [hHf], hInv _ _ _, .inr (by rw [hHf]; rfl)⟩
      · have ht : t0 < d := by
          rcases Nat.eq_or_lt_of_le h1 with x | x
          · exact absurd (by omega) e
          · exact x
        have := ih (t0 + 1) (growS (kindOf b s) w u) ht (by simp at h2; omega) (by
          rw [← h3, show d - t0 + 1 = (d - (t0 + 1) + 1) + 1 by omega, List.take_succ_cons]; rfl)
        simp only [hHf] at this
        exact ⟨Hf noWear .ready none ++ [some (.row (growS (kindOf b s) w u).c)], [some (.row (growS (kindOf b s) w u).c)], by simp [hHf, WearD.c, bayC, noWear], by simp [hHf], hbf _ _ _ _, trivial, Hf noWear .ready none, rfl, by simp [hHf], hInv _ _ _, .inl (by rw [hHf]; exact this)⟩
  have key := iter_c b v s night (h.length + 8) (h.length + 4) (h.length + 5) (h.length + 6) (h.length + 7) e1 (by omega) (by omega) (by omega) _ (hInv noWear .ready none) (by rw [hlen]; omega)
    (hIt _ _ _ (by omega) (by rw [List.length_drop]; omega) (by rw [eW, afterD, show d - (night + 1).toNat + 1 = ((d : Int) - night).toNat by omega]))
  simp only [hHf] at key
  refine key.mono fun v' h' hk => ?_
  subst hk
  simp only [go_sem, ↓reduceIte, Nat.reduceEqDiff, Nat.reduceAdd, Nat.reduceSub, Nat.reduceMul, Nat.reduceLT, Nat.reduceLeDiff, Int.reduceLE, Int.reduceLT, Int.reduceAdd, Int.reduceSub, Int.reduceMul, Int.reduceEq, Int.reduceBEq, Int.reduceBNe, Int.reduceNeg, Int.reduceToNat, reduceCtorEq]
  simp [AfterV, e1, e2, e3, e4, eW, WearD.c]
end Go.Proofs.Ab

namespace Go.Proofs.Ab
open Go Go.Proofs
variable {w0 : World} {h : Heap}
attribute [local irreducible] ACall ACallV AYield DCall DCallV rvC rdC lp rg dr ex un rv rd'

def lastR (en : Span → Int) (b : BayD) (s : Nat) (night : Int) : Nat → Int
  | 0 => night
  | j + 1 => if decide (lastR en b s night j = night + j) && withinB en (kindOf b s) (afterD b s night (night + 1 + j)) then night + 1 + j else lastR en b s night j

theorem daysL_snoc {k : KindD} {u : UseD} : ∀ {us : List UseD} {t : Nat} {w : WearD}, daysL k (us ++ [u]) t w = daysL k us t w ++ [(t + us.length, growS k (aftL k w us) u)]
  | [], t, w => rfl
  | x :: us, t, w => by
    have := daysL_snoc (k := k) (u := u) (us := us) (t := t + 1) (w := growS k w x)
    simp only [List.cons_append, daysL, this, List.length_cons, aftL, List.foldl_cons, show t + 1 + us.length = t + (us.length + 1) by omega]
theorem lastL_snoc {en : Span → Int} {k : KindD} {x : Nat × WearD} : ∀ {l : List (Nat × WearD)} {last : Int}, lastL en k (l ++ [x]) last = if (l.all fun y => withinB en k y.2) && withinB en k x.2 then (x.1 : Int) else lastL en k l last
  | [], last => by simp [lastL]
  | y :: l, last => by
    have := lastL_snoc (en := en) (k := k) (x := x) (l := l) (last := y.1)
    simp only [List.cons_append, lastL, List.all_cons]
    by_cases e : withinB en k y.2 = true
    · simp only [e, if_true, this, Bool.true_and]
    · simp [e]
theorem daysL_len {k : KindD} : ∀ {us : List UseD} {t : Nat} {w : WearD}, (daysL k us t w).length = us.length
  | [], _, _ => rfl
  | _ :: us, _, _ => by simp [daysL, daysL_len (us := us)]
theorem lastR_eq {en : Span → Int} {b : BayD} {s : Nat} {night : Int} (hn : -1 ≤ night) (us : List UseD) (eus : us = b.days.drop (night + 1).toNat) (j : Nat) (hj : j ≤ us.length) :
    lastR en b s night j = lastL en (kindOf b s) (daysL (kindOf b s) (us.take j) (night + 1).toNat (beginW b s night)) night ∧
    (lastR en b s night j = night + j ↔ ((daysL (kindOf b s) (us.take j) (night + 1).toNat (beginW b s night)).all fun y => withinB en (kindOf b s) y.2) = true) := by
  induction j with
  | zero => simp [lastR, daysL, lastL]
  | succ j ih =>
    have hj' : j < us.length := by omega
    obtain ⟨i1, i2⟩ := ih (by omega)
    have hlen : (us.take j).length = j := by simp; omega
    have hle : lastR en b s night j ≤ night + j := by
      clear i1 i2 ih
      induction j with
      | zero => simp [lastR]
      | succ j ih =>
        have := ih (by omega) (by omega) (by simp; omega)
        simp only [lastR]
        split <;> omega
    have haf : growS (kindOf b s) (aftL (kindOf b s) (beginW b s night) (us.take j)) us[j] = afterD b s night (night + 1 + j) := by
      have : (night + 1 + (j : Int) - night).toNat = j + 1 := by omega
      rw [afterD, this, ← eus, take_succ' hj', aftL, aftL, List.foldl_append]; rfl
    rw [take_succ' hj', daysL_snoc, lastL_snoc, hlen, haf]
    have ht : (((night + 1).toNat + j : Nat) : Int) = night + 1 + j := by omega
    rw [i1] at hle
    simp only [lastR, List.all_append, List.all_cons, List.all_nil, Bool.and_true]
    rw [ht, ← i1]
    rw [← i1] at hle
    by_cases hall : ((daysL (kindOf b s) (us.take j) (night + 1).toNat (beginW b s night)).all fun y => withinB en (kindOf b s) y.2) = true
    · have h1 := i2.2 hall
      simp only [hall, h1, decide_true, Bool.true_and, true_and]
      by_cases hw : withinB en (kindOf b s) (afterD b s night (night + 1 + j)) = true
      · simp [hw]; omega
      · simp [hw]
        omega
    · have h1 : ¬ lastR en b s night j = night + j := fun e => hall (i2.1 e)
      simp only [hall, h1, decide_false, Bool.false_and, Bool.false_eq_true, if_false, false_iff, true_and]
      refine ⟨fun e => ?_, False.elim⟩
      have : ((j + 1 : Nat) : Int) = j + 1 := by omega
      omega
theorem lastR_lasts {en : Span → Int} {b : BayD} {s : Nat} {night : Int} (hn : -1 ≤ night) (hn2 : night < b.days.length) : lastR en b s night ((b.days.length : Int) - night - 1).toNat = lastsD en b s night := by
  have := (lastR_eq (en := en) (b := b) (s := s) hn _ rfl ((b.days.length : Int) - night - 1).toNat (by rw [List.length_drop]; omega)).1
  rw [this, lastsD, List.take_of_length_le (by rw [List.length_drop]; omega)]

theorem rlasts_c (b : BayD) (v : BayV) (s : Nat) (night : Int) (hR : BayR w0 h b v) (hB : bayB b = true) (hs : s < b.slots.length) (hn : -1 ≤ night) (hn2 : night < b.days.length) :
    DCall Try.prog w0 47 [.agg (bayC b v), .int .i64 s, .int .i64 night] h (.tup [.int .i64 (lastsD Span.high b s night), .int .i64 (lastsD Span.low b s night)]) h := by
  refine DCall_quiet hmix mf47_ok mf47_b mf47_g (Nat.le_of_ble_eq_true rfl) (by simp [AV.bdd, AV.bdds]) fun hb ha => ex_in ?_
  have bs := bayB_spec hB
  have o1 := hR.kinds.one.1
  have o2 := hR.slots.one.1
  have o3 := hR.days.one.1
  have o4 := hR.nights.one.1
  have o5 := hR.defs.one.1
  have l2 := hR.days.use.1
  simp only [List.length_map] at l2
  simp only [go_sem, mf47, o1, o2, o3, o4, o5, ↓reduceIte, Nat.reduceEqDiff, Nat.reduceAdd, Nat.reduceSub, Nat.reduceMul, Nat.reduceLT, Nat.reduceLeDiff, Int.reduceLE, Int.reduceLT, Int.reduceAdd, Int.reduceSub, Int.reduceMul, Int.reduceEq, Int.reduceBEq, Int.reduceBNe, Int.reduceNeg, Int.reduceToNat, reduceCtorEq]
  refine ⟨(by unfold I64; omega), ?_⟩
  obtain ⟨n, en⟩ : ∃ n, n = ((b.days.length : Int) - night - 1).toNat := ⟨_, rfl⟩
  refine lp_for (S := Unit) (fun j _ => [(1, .int .i64 s), (2, .int .i64 night), (3, .ptr (.own h.length 0)), (8, .int .i64 (lastR Span.high b s night j)), (9, .int .i64 (lastR Span.low b s night j)), (10, .int .i64 (night + 1 + j))])
    (fun _ _ => h ++ [some (.row (bayC b v))]) (fun _ _ => True) n () trivial (by simp [lastR]) (by simp [bayC]) (fun j _ hj _ ih => ?_) (fun _ _ => ?_)
  · refine lp_step hmix L47_0_g [1, 2, 3, 8, 9, 10] L47_0.eq_1 ?_
    have m1 : night + 1 + (j : Int) < b.days.length := by omega
    have ih := ih () trivial
    have hst : ∀ en, lastR en b s night (j + 1) = if decide (lastR en b s night j = night + j) && withinB en (kindOf b s) (afterD b s night (night + 1 + j)) then night + 1 + j else lastR en b s night j := fun en => rfl
    rw [hst, hst] at ih
    generalize lastR Span.high b s night j = a at ih ⊢
    generalize lastR Span.low b s night j = c at ih ⊢
    simp only [go_sem, l2, m1, ↓reduceIte, Nat.reduceEqDiff, Nat.reduceAdd, Nat.reduceSub, Nat.reduceMul, Nat.reduceLT, Nat.reduceLeDiff, Int.reduceLE, Int.reduceLT, Int.reduceAdd, Int.reduceSub, Int.reduceMul, Int.reduceEq, Int.reduceBEq, Int.reduceBNe, Int.reduceNeg, Int.reduceToNat, reduceCtorEq]
    refine rvC_use (rafter_c b v s night (night + 1 + j) hR.app hB hs hn (by omega) (by omega)).v ?_
    generalize afterD b s night (night + 1 + j) = w at ih ⊢
    have he : ∀ x : Int, decide (x = night + j) = (x == night + 1 + j - 1) := fun x => by
      rw [ieq, show night + 1 + (j : Int) - 1 = night + j by omega]
    simp only [he] at ih
    obtain ⟨a', ea'⟩ : ∃ a', a' = if (a == night + 1 + (j : Int) - 1) && withinB Span.high (kindOf b s) w then night + 1 + (j : Int) else a := ⟨_, rfl⟩
    obtain ⟨c', ec'⟩ : ∃ c', c' = if (c == night + 1 + (j : Int) - 1) && withinB Span.low (kindOf b s) w then night + 1 + (j : Int) else c := ⟨_, rfl⟩
    rw [← ea', ← ec'] at ih
    have hjj : night + 1 + ((j + 1 : Nat) : Int) = night + 1 + j + 1 := by omega
    rw [hjj] at ih
    have ih3 := lp_drop (P := Try.prog) (w0 := w0) (r := none) (nt := 54) (Q := quietK w0 [RV.t 6, RV.t 7] h (AV.tup [AV.int IntKind.i64 (lastsD Span.high b s night), AV.int IntKind.i64 (lastsD Span.low b s night)])) (a := L47_0) (l := [some (.row (bayC b v)), some (.row w.c)]) 1 hb (by simp [HBs_some, HBs_none, HBs_nil, FB_cons, FB_nil, row_bdd, AV.bdds, AV.bdd, Pl.bdd, loop_bddT, hR.kinds.bdd, hR.slots.bdd, hR.days.bdd, hR.nights.bdd, hR.defs.bdd, bayC]) (by simp [HBs_some, HBs_none, HBs_nil, FB_cons, FB_nil, row_bdd, AV.bdds, AV.bdd, Pl.bdd, loop_bddT]) ih
    clear ih
    cases ea : (a == night + 1 + (j : Int) - 1) <;> cases ec : (c == night + 1 + (j : Int) - 1) <;> cases hw1 : withinB Span.high (kindOf b s) w <;> cases hw2 : withinB Span.low (kindOf b s) w
    all_goals
      rw [ea, hw1] at ea'
      rw [ec, hw2] at ec'
      simp only [Bool.and_self, Bool.and_false, Bool.false_and, Bool.false_eq_true, if_false, if_true] at ea' ec'
      subst ea'
      subst ec'
      simp only [go_sem, ea, ec, ↓reduceIte, Nat.reduceEqDiff, Nat.reduceAdd, Nat.reduceSub, Nat.reduceMul, Nat.reduceLT, Nat.reduceLeDiff, Int.reduceLE, Int.reduceLT, Int.reduceAdd, Int.reduceSub, Int.reduceMul, Int.reduceEq, Int.reduceBEq, Int.reduceBNe, Int.reduceNeg, Int.reduceToNat, reduceCtorEq]
      repeat' first | (refine And.intro (by unfold I64; omega) ?_) | (refine rdC_q (rkindOf_c b v s hR.app hB hs).v ?_; simp only [go_sem, ec, ↓reduceIte, Nat.reduceEqDiff, Nat.reduceAdd, Nat.reduceSub, Nat.reduceMul, Nat.reduceLT, Nat.reduceLeDiff, Int.reduceLE, Int.reduceLT, Int.reduceAdd, Int.reduceSub, Int.reduceMul, Int.reduceEq, Int.reduceBEq, Int.reduceBNe, Int.reduceNeg, Int.reduceToNat, reduceCtorEq]) | (refine rdC_q (rsure_c _ _).v ?_; simp only [go_sem, hw1, ec, ↓reduceIte, Nat.reduceEqDiff, Nat.reduceAdd, Nat.reduceSub, Nat.reduceMul, Nat.reduceLT, Nat.reduceLeDiff, Int.reduceLE, Int.reduceLT, Int.reduceAdd, Int.reduceSub, Int.reduceMul, Int.reduceEq, Int.reduceBEq, Int.reduceBNe, Int.reduceNeg, Int.reduceToNat, reduceCtorEq]) | (refine rdC_q (rmay_c _ _).v ?_; simp only [go_sem, hw2, ↓reduceIte, Nat.reduceEqDiff, Nat.reduceAdd, Nat.reduceSub, Nat.reduceMul, Nat.reduceLT, Nat.reduceLeDiff, Int.reduceLE, Int.reduceLT, Int.reduceAdd, Int.reduceSub, Int.reduceMul, Int.reduceEq, Int.reduceBEq, Int.reduceBNe, Int.reduceNeg, Int.reduceToNat, reduceCtorEq])
      simpa [bayC, WearD.c] using ih3
  · refine lp_step hmix L47_0_g [1, 2, 3, 8, 9, 10] L47_0.eq_1 ?_
    have m1 : ¬ night + 1 + (n : Int) < b.days.length := by omega
    simp only [go_sem, l2, m1, ↓reduceIte, Nat.reduceEqDiff, Nat.reduceAdd, Nat.reduceSub, Nat.reduceMul, Nat.reduceLT, Nat.reduceLeDiff, Int.reduceLE, Int.reduceLT, Int.reduceAdd, Int.reduceSub, Int.reduceMul, Int.reduceEq, Int.reduceBEq, Int.reduceBNe, Int.reduceNeg, Int.reduceToNat, reduceCtorEq]
    rw [en, lastR_lasts hn hn2, lastR_lasts hn hn2]
end Go.Proofs.Ab

namespace Go.Proofs.Ab
open Go Go.Proofs
variable {w0 : World} {h : Heap}
attribute [local irreducible] ACall ACallV AYield DCall DCallV rvC rdC lp rg dr ex un rv rd'

theorem WearLasts_c (b : BayD) (v : BayV) (slot night day : Int) (hS : BayS w0 h b v) : DCall Try.prog w0 11 [.agg (bayC b v), .int .i64 slot, .int .i64 night, .int .i64 day] h (.bool true) h := by
  refine DCall_quiet hmix mf11_ok mf11_b mf11_g (Nat.le_of_ble_eq_true rfl) (by simp [AV.bdd, AV.bdds]) fun hb ha => ex_in ?_
  have o1 := hS.kinds.one.1
  have o2 := hS.slots.one.1
  have o3 := hS.days.one.1
  have o4 := hS.nights.one.1
  have o5 := hS.defs.one.1
  have l1 := hS.slots.use.1
  have l2 := hS.days.use.1
  simp only [List.length_map] at l1 l2
  simp only [go_sem, mf11, o1, o2, o3, o4, o5, ↓reduceIte, Nat.reduceEqDiff, Nat.reduceAdd, Nat.reduceSub, Nat.reduceMul, Nat.reduceLT, Nat.reduceLeDiff, Int.reduceLE, Int.reduceLT, Int.reduceAdd, Int.reduceSub, Int.reduceMul, Int.reduceEq, Int.reduceBEq, Int.reduceBNe, Int.reduceNeg, Int.reduceToNat, reduceCtorEq]
  refine rvC_use (short_c b v hS.app).v ?_
  simp only [go_sem, ↓reduceIte, Nat.reduceEqDiff, Nat.reduceAdd, Nat.reduceSub, Nat.reduceMul, Nat.reduceLT, Nat.reduceLeDiff, Int.reduceLE, Int.reduceLT, Int.reduceAdd, Int.reduceSub, Int.reduceMul, Int.reduceEq, Int.reduceBEq, Int.reduceBNe, Int.reduceNeg, Int.reduceToNat, reduceCtorEq]
  refine ⟨fun e1 => ?_, fun e1 => ?_⟩
  · refine rvC_use known_c.v ?_
    simp only [go_sem, ↓reduceIte, Nat.reduceEqDiff, Nat.reduceAdd, Nat.reduceSub, Nat.reduceMul, Nat.reduceLT, Nat.reduceLeDiff, Int.reduceLE, Int.reduceLT, Int.reduceAdd, Int.reduceSub, Int.reduceMul, Int.reduceEq, Int.reduceBEq, Int.reduceBNe, Int.reduceNeg, Int.reduceToNat, reduceCtorEq]
  have hR := hS.R e1
  refine rvC_use (rbay_c b v hR.app).v ?_
  simp only [go_sem, ↓reduceIte, Nat.reduceEqDiff, Nat.reduceAdd, Nat.reduceSub, Nat.reduceMul, Nat.reduceLT, Nat.reduceLeDiff, Int.reduceLE, Int.reduceLT, Int.reduceAdd, Int.reduceSub, Int.reduceMul, Int.reduceEq, Int.reduceBEq, Int.reduceBNe, Int.reduceNeg, Int.reduceToNat, reduceCtorEq]
  refine rvC_use (Check_c b v hR.app).v ?_
  have hA := After_c (w0 := w0) (h := h ++ [some (.row (bayC b v))]) b v slot night day hR.app
  obtain ⟨ww, eww⟩ : ∃ ww : WearD, ww = if bayB b && inB slot 0 (b.slots.length - 1) && inB night (-1) (b.days.length - 1) && inB day (night + 1) (b.days.length - 1) then afterD b slot.toNat night day else noWear := ⟨_, rfl⟩
  obtain ⟨we, ewe⟩ : ∃ we : Int, we = if bayB b && inB slot 0 (b.slots.length - 1) && inB night (-1) (b.days.length - 1) && inB day (night + 1) (b.days.length - 1) then 0 else 2 := ⟨_, rfl⟩
  have hA' : AfterV b slot night day = .tup [.agg ww.c, .int .i64 we] := by
    rw [AfterV, eww, ewe]; split <;> rfl
  rw [hA'] at hA
  have hrest : ∀ (L : Heap), DCall Try.prog w0 43 [.agg (bayC b v), .int .i64 slot, .int .i64 night] (h ++ L) (LastsV b slot night) (h ++ L) := fun L => Lasts_c b v slot night hR.app
  by_cases eb : bayB b = true
  · rw [if_pos eb]
    simp only [go_sem, eb, ↓reduceIte, Nat.reduceEqDiff, Nat.reduceAdd, Nat.reduceSub, Nat.reduceMul, Nat.reduceLT, Nat.reduceLeDiff, Int.reduceLE, Int.reduceLT, Int.reduceAdd, Int.reduceSub, Int.reduceMul, Int.reduceEq, Int.reduceBEq, Int.reduceBNe, Int.reduceNeg, Int.reduceToNat, reduceCtorEq]
    refine rvC_use hA.v ?_
    simp only [go_sem, ↓reduceIte, Nat.reduceEqDiff, Nat.reduceAdd, Nat.reduceSub, Nat.reduceMul, Nat.reduceLT, Nat.reduceLeDiff, Int.reduceLE, Int.reduceLT, Int.reduceAdd, Int.reduceSub, Int.reduceMul, Int.reduceEq, Int.reduceBEq, Int.reduceBNe, Int.reduceNeg, Int.reduceToNat, reduceCtorEq]
    by_cases f2 : inB slot 0 (b.slots.length - 1) = true
    · by_cases f3 : inB night (-1) (b.days.length - 1) = true
      · have hL : LastsV b slot night = .tup [.int .i64 (lastsD Span.high b slot.toNat night), .int .i64 (lastsD Span.low b slot.toNat night), .int .i64 0] := by simp [LastsV, eb, f2, f3]
        rw [hL] at hrest
        refine rvC_use (hrest _).v ?_
        have g2 := f2
        have g3 := f3
        simp only [inB, Bool.and_eq_true, decide_eq_true_eq] at g2 g3
        obtain ⟨s, rfl⟩ : ∃ s : Nat, slot = s := ⟨slot.toNat, by omega⟩
        have m1 : (0 : Int) ≤ s := by omega
        have m2 : (s : Int) < b.slots.length := by omega
        have m3 : -1 ≤ night := by omega
        have m4 : night < b.days.length := by omega
        simp only [go_sem, l1, l2, m1, m2, m3, m4, ↓reduceIte, Nat.reduceEqDiff, Nat.reduceAdd, Nat.reduceSub, Nat.reduceMul, Nat.reduceLT, Nat.reduceLeDiff, Int.reduceLE, Int.reduceLT, Int.reduceAdd, Int.reduceSub, Int.reduceMul, Int.reduceEq, Int.reduceBEq, Int.reduceBNe, Int.reduceNeg, Int.reduceToNat, reduceCtorEq]
        refine rvC_use (rlasts_c b v s night hR.app eb (by omega) m3 m4).v ?_
        simp only [go_sem, l2, Int.toNat_natCast, bne_self_eq_false, ↓reduceIte, Nat.reduceEqDiff, Nat.reduceAdd, Nat.reduceSub, Nat.reduceMul, Nat.reduceLT, Nat.reduceLeDiff, Int.reduceLE, Int.reduceLT, Int.reduceAdd, Int.reduceSub, Int.reduceMul, Int.reduceEq, Int.reduceBEq, Int.reduceBNe, Int.reduceNeg, Int.reduceToNat, reduceCtorEq]
        by_cases f4 : inB day (night + 1) (b.days.length - 1) = true
        · have g4 := f4
          simp only [inB, Bool.and_eq_true, decide_eq_true_eq] at g4
          have m5 : ¬ day ≤ night := by omega
          have m6 : ¬ (b.days.length : Int) ≤ day := by omega
          have ewe' : we = 0 := by rw [ewe]; simp [eb, f2, f3, f4]
          have eww' : ww = afterD b s night day := by rw [eww]; simp [eb, f2, f3, f4]
          simp only [go_sem, m5, m6, ewe', ↓reduceIte, Nat.reduceEqDiff, Nat.reduceAdd, Nat.reduceSub, Nat.reduceMul, Nat.reduceLT, Nat.reduceLeDiff, Int.reduceLE, Int.reduceLT, Int.reduceAdd, Int.reduceSub, Int.reduceMul, Int.reduceEq, Int.reduceBEq, Int.reduceBNe, Int.reduceNeg, Int.reduceToNat, reduceCtorEq]
          refine rdC_q (rafter_c b v s night day hR.app eb (by omega) m3 (by omega) (by omega)).v ?_
          rw [eww']
          simp only [go_sem, ↓reduceIte, Nat.reduceEqDiff, Nat.reduceAdd, Nat.reduceSub, Nat.reduceMul, Nat.reduceLT, Nat.reduceLeDiff, Int.reduceLE, Int.reduceLT, Int.reduceAdd, Int.reduceSub, Int.reduceMul, Int.reduceEq, Int.reduceBEq, Int.reduceBNe, Int.reduceNeg, Int.reduceToNat, reduceCtorEq]
          refine rdC_q known_c.v ?_
          simp only [go_sem, ↓reduceIte, Nat.reduceEqDiff, Nat.reduceAdd, Nat.reduceSub, Nat.reduceMul, Nat.reduceLT, Nat.reduceLeDiff, Int.reduceLE, Int.reduceLT, Int.reduceAdd, Int.reduceSub, Int.reduceMul, Int.reduceEq, Int.reduceBEq, Int.reduceBNe, Int.reduceNeg, Int.reduceToNat, reduceCtorEq]
        · have ewe' : we = 2 := by rw [ewe]; simp [eb, f2, f3, f4]
          have eww' : ww = noWear := by rw [eww]; simp [eb, f2, f3, f4]
          simp only [inB, Bool.and_eq_true, decide_eq_true_eq] at f4
          subst ewe'
          subst eww'
          simp only [go_sem, noWear, ↓reduceIte, Nat.reduceEqDiff, Nat.reduceAdd, Nat.reduceSub, Nat.reduceMul, Nat.reduceLT, Nat.reduceLeDiff, Int.reduceLE, Int.reduceLT, Int.reduceAdd, Int.reduceSub, Int.reduceMul, Int.reduceEq, Int.reduceBEq, Int.reduceBNe, Int.reduceNeg, Int.reduceToNat, reduceCtorEq]
          refine ⟨fun e => ⟨fun e2 => ?_, fun e2 => by omega⟩, fun e => ?_⟩
          · refine rvC_use known_c.v ?_
            simp only [go_sem, ↓reduceIte, Nat.reduceEqDiff, Nat.reduceAdd, Nat.reduceSub, Nat.reduceMul, Nat.reduceLT, Nat.reduceLeDiff, Int.reduceLE, Int.reduceLT, Int.reduceAdd, Int.reduceSub, Int.reduceMul, Int.reduceEq, Int.reduceBEq, Int.reduceBNe, Int.reduceNeg, Int.reduceToNat, reduceCtorEq]
          · refine rvC_use known_c.v ?_
            simp only [go_sem, ↓reduceIte, Nat.reduceEqDiff, Nat.reduceAdd, Nat.reduceSub, Nat.reduceMul, Nat.reduceLT, Nat.reduceLeDiff, Int.reduceLE, Int.reduceLT, Int.reduceAdd, Int.reduceSub, Int.reduceMul, Int.reduceEq, Int.reduceBEq, Int.reduceBNe, Int.reduceNeg, Int.reduceToNat, reduceCtorEq]
      · have hL : LastsV b slot night = .tup [.int .i64 0, .int .i64 0, .int .i64 2] := by simp [LastsV, f3]
        rw [hL] at hrest
        have ewe' : we = 2 := by rw [ewe]; simp [f3]
        have eww' : ww = noWear := by rw [eww]; simp [f3]
        simp only [inB, Bool.and_eq_true, decide_eq_true_eq] at f2 f3
        subst ewe'
        subst eww'
        refine rvC_use (hrest _).v ?_
        have m1 : (0 : Int) ≤ slot := by omega
        have m2 : slot < b.slots.length := by omega
        by_cases m3 : -1 ≤ night
        · have m4 : ¬ night < b.days.length := by omega
          simp only [go_sem, l1, l2, m1, m2, m3, m4, noWear, ↓reduceIte, Nat.reduceEqDiff, Nat.reduceAdd, Nat.reduceSub, Nat.reduceMul, Nat.reduceLT, Nat.reduceLeDiff, Int.reduceLE, Int.reduceLT, Int.reduceAdd, Int.reduceSub, Int.reduceMul, Int.reduceEq, Int.reduceBEq, Int.reduceBNe, Int.reduceNeg, Int.reduceToNat, reduceCtorEq]
          refine rvC_use known_c.v ?_
          simp only [go_sem, ↓reduceIte, Nat.reduceEqDiff, Nat.reduceAdd, Nat.reduceSub, Nat.reduceMul, Nat.reduceLT, Nat.reduceLeDiff, Int.reduceLE, Int.reduceLT, Int.reduceAdd, Int.reduceSub, Int.reduceMul, Int.reduceEq, Int.reduceBEq, Int.reduceBNe, Int.reduceNeg, Int.reduceToNat, reduceCtorEq]
        · simp only [go_sem, l1, l2, m1, m2, m3, noWear, ↓reduceIte, Nat.reduceEqDiff, Nat.reduceAdd, Nat.reduceSub, Nat.reduceMul, Nat.reduceLT, Nat.reduceLeDiff, Int.reduceLE, Int.reduceLT, Int.reduceAdd, Int.reduceSub, Int.reduceMul, Int.reduceEq, Int.reduceBEq, Int.reduceBNe, Int.reduceNeg, Int.reduceToNat, reduceCtorEq]
          refine rvC_use known_c.v ?_
          simp only [go_sem, ↓reduceIte, Nat.reduceEqDiff, Nat.reduceAdd, Nat.reduceSub, Nat.reduceMul, Nat.reduceLT, Nat.reduceLeDiff, Int.reduceLE, Int.reduceLT, Int.reduceAdd, Int.reduceSub, Int.reduceMul, Int.reduceEq, Int.reduceBEq, Int.reduceBNe, Int.reduceNeg, Int.reduceToNat, reduceCtorEq]
    · have hL : LastsV b slot night = .tup [.int .i64 0, .int .i64 0, .int .i64 2] := by simp [LastsV, f2]
      rw [hL] at hrest
      have ewe' : we = 2 := by rw [ewe]; simp [f2]
      have eww' : ww = noWear := by rw [eww]; simp [f2]
      simp only [inB, Bool.and_eq_true, decide_eq_true_eq] at f2
      subst ewe'
      subst eww'
      refine rvC_use (hrest _).v ?_
      by_cases m1 : 0 ≤ slot
      · have m2 : ¬ slot < b.slots.length := by omega
        simp only [go_sem, l1, l2, m1, m2, noWear, ↓reduceIte, Nat.reduceEqDiff, Nat.reduceAdd, Nat.reduceSub, Nat.reduceMul, Nat.reduceLT, Nat.reduceLeDiff, Int.reduceLE, Int.reduceLT, Int.reduceAdd, Int.reduceSub, Int.reduceMul, Int.reduceEq, Int.reduceBEq, Int.reduceBNe, Int.reduceNeg, Int.reduceToNat, reduceCtorEq]
        refine rvC_use known_c.v ?_
        simp only [go_sem, ↓reduceIte, Nat.reduceEqDiff, Nat.reduceAdd, Nat.reduceSub, Nat.reduceMul, Nat.reduceLT, Nat.reduceLeDiff, Int.reduceLE, Int.reduceLT, Int.reduceAdd, Int.reduceSub, Int.reduceMul, Int.reduceEq, Int.reduceBEq, Int.reduceBNe, Int.reduceNeg, Int.reduceToNat, reduceCtorEq]
      · simp only [go_sem, l1, l2, m1, noWear, ↓reduceIte, Nat.reduceEqDiff, Nat.reduceAdd, Nat.reduceSub, Nat.reduceMul, Nat.reduceLT, Nat.reduceLeDiff, Int.reduceLE, Int.reduceLT, Int.reduceAdd, Int.reduceSub, Int.reduceMul, Int.reduceEq, Int.reduceBEq, Int.reduceBNe, Int.reduceNeg, Int.reduceToNat, reduceCtorEq]
        refine rvC_use known_c.v ?_
        simp only [go_sem, ↓reduceIte, Nat.reduceEqDiff, Nat.reduceAdd, Nat.reduceSub, Nat.reduceMul, Nat.reduceLT, Nat.reduceLeDiff, Int.reduceLE, Int.reduceLT, Int.reduceAdd, Int.reduceSub, Int.reduceMul, Int.reduceEq, Int.reduceBEq, Int.reduceBNe, Int.reduceNeg, Int.reduceToNat, reduceCtorEq]
  · have hL : LastsV b slot night = .tup [.int .i64 0, .int .i64 0, .int .i64 2] := by simp [LastsV, eb]
    rw [hL] at hrest
    have ewe' : we = 2 := by rw [ewe]; simp [eb]
    have eww' : ww = noWear := by rw [eww]; simp [eb]
    subst ewe'
    subst eww'
    rw [if_neg eb]
    simp only [Bool.not_eq_true] at eb
    simp only [go_sem, eb, ↓reduceIte, Nat.reduceEqDiff, Nat.reduceAdd, Nat.reduceSub, Nat.reduceMul, Nat.reduceLT, Nat.reduceLeDiff, Int.reduceLE, Int.reduceLT, Int.reduceAdd, Int.reduceSub, Int.reduceMul, Int.reduceEq, Int.reduceBEq, Int.reduceBNe, Int.reduceNeg, Int.reduceToNat, reduceCtorEq]
    refine rvC_use hA.v ?_
    simp only [go_sem, ↓reduceIte, Nat.reduceEqDiff, Nat.reduceAdd, Nat.reduceSub, Nat.reduceMul, Nat.reduceLT, Nat.reduceLeDiff, Int.reduceLE, Int.reduceLT, Int.reduceAdd, Int.reduceSub, Int.reduceMul, Int.reduceEq, Int.reduceBEq, Int.reduceBNe, Int.reduceNeg, Int.reduceToNat, reduceCtorEq]
    refine rvC_use (hrest _).v ?_
    simp only [go_sem, noWear, ↓reduceIte, Nat.reduceEqDiff, Nat.reduceAdd, Nat.reduceSub, Nat.reduceMul, Nat.reduceLT, Nat.reduceLeDiff, Int.reduceLE, Int.reduceLT, Int.reduceAdd, Int.reduceSub, Int.reduceMul, Int.reduceEq, Int.reduceBEq, Int.reduceBNe, Int.reduceNeg, Int.reduceToNat, reduceCtorEq]
    refine rvC_use known_c.v ?_
    simp only [go_sem, ↓reduceIte, Nat.reduceEqDiff, Nat.reduceAdd, Nat.reduceSub, Nat.reduceMul, Nat.reduceLT, Nat.reduceLeDiff, Int.reduceLE, Int.reduceLT, Int.reduceAdd, Int.reduceSub, Int.reduceMul, Int.reduceEq, Int.reduceBEq, Int.reduceBNe, Int.reduceNeg, Int.reduceToNat, reduceCtorEq]
end Go.Proofs.Ab

namespace Go.Proofs.Ab
open Go Go.Proofs
variable {w0 : World} {h : Heap}
attribute [local irreducible] ACall ACallV AYield DCall DCallV rvC rdC lp rg dr ex un rv rd'

structure TruthD where
  minutes : Int
  cycles : Int
  rust : Int
@[go_sem] def TruthD.c (t : TruthD) : List AV := [.int .i64 t.minutes, .int .i64 t.cycles, .int .i64 t.rust]
@[simp] theorem TruthD.c_bdd (N : Nat) (s : TruthD) : AV.bdds N s.c := by simp [TruthD.c, AV.bdds, AV.bdd]
def partD (s : Span) (p : Int) : Int := s.low + (s.high - s.low) * p / 100
def okS (s : Span) : Prop := 0 ≤ s.low ∧ s.low ≤ s.high ∧ s.high ≤ 10000000
theorem partD_in {s : Span} {p : Int} (hs : s.low ≤ s.high) (h0 : 0 ≤ p) (h1 : p ≤ 100) : s.low ≤ partD s p ∧ partD s p ≤ s.high := by
  have h2 : 0 ≤ (s.high - s.low) * p := Int.mul_nonneg (by omega) h0
  have h3 : (s.high - s.low) * p ≤ (s.high - s.low) * 100 := Int.mul_le_mul_of_nonneg_left h1 (by omega)
  simp only [partD]
  omega
theorem part_c (s : Span) (p : Int) (hs : okS s) (h0 : 0 ≤ p) (h1 : p ≤ 100) : DCall Try.prog w0 72 [.agg s.c, .int .i64 p] h (.int .i64 (partD s p)) h := by
  refine DCall_quiet hmix mf72_ok mf72_b mf72_g (Nat.le_of_ble_eq_true rfl) (by simp [AV.bdd, AV.bdds]) fun hb ha => ex_in ?_
  obtain ⟨a1, a2, a3⟩ := hs
  have h2 : 0 ≤ (s.high - s.low) * p := Int.mul_nonneg (by omega) h0
  have h3 : (s.high - s.low) * p ≤ (s.high - s.low) * 100 := Int.mul_le_mul_of_nonneg_left h1 (by omega)
  have d1 := Int.tdiv_eq_ediv_of_nonneg (b := 100) h2
  simp only [go_sem, mf72, d1, ↓reduceIte, Nat.reduceEqDiff, Nat.reduceAdd, Nat.reduceSub, Nat.reduceMul, Nat.reduceLT, Nat.reduceLeDiff, Int.reduceLE, Int.reduceLT, Int.reduceAdd, Int.reduceSub, Int.reduceMul, Int.reduceEq, Int.reduceBEq, Int.reduceBNe, Int.reduceNeg, Int.reduceToNat, reduceCtorEq]
  exact ⟨(by unfold I64; omega), (by unfold I64; omega), (by unfold I64; omega), (by unfold I64; omega), rfl⟩

def beginT (w : WearD) (p : Int) : TruthD := ⟨partD w.minutes p, partD w.cycles p, partD w.rust p⟩
theorem begin_t (w : WearD) (p : Int) (hw : wornB w = true) (h0 : 0 ≤ p) (h1 : p ≤ 100) : DCall Try.prog w0 26 [.agg w.c, .int .i64 p] h (.agg (beginT w p).c) h := by
  refine DCall_quiet hmix mf26_ok mf26_b mf26_g (Nat.le_of_ble_eq_true rfl) (by simp [AV.bdd, AV.bdds]) fun hb ha => ex_in ?_
  have bw := wornB_spec hw
  simp only [go_sem, mf26, ↓reduceIte, Nat.reduceEqDiff, Nat.reduceAdd, Nat.reduceSub, Nat.reduceMul, Nat.reduceLT, Nat.reduceLeDiff, Int.reduceLE, Int.reduceLT, Int.reduceAdd, Int.reduceSub, Int.reduceMul, Int.reduceEq, Int.reduceBEq, Int.reduceBNe, Int.reduceNeg, Int.reduceToNat, reduceCtorEq]
  refine rdC_q (part_c w.minutes p ⟨by omega, by omega, by omega⟩ h0 h1).v ?_
  simp only [go_sem, ↓reduceIte, Nat.reduceEqDiff, Nat.reduceAdd, Nat.reduceSub, Nat.reduceMul, Nat.reduceLT, Nat.reduceLeDiff, Int.reduceLE, Int.reduceLT, Int.reduceAdd, Int.reduceSub, Int.reduceMul, Int.reduceEq, Int.reduceBEq, Int.reduceBNe, Int.reduceNeg, Int.reduceToNat, reduceCtorEq]
  refine rdC_q (part_c w.cycles p ⟨by omega, by omega, by omega⟩ h0 h1).v ?_
  simp only [go_sem, ↓reduceIte, Nat.reduceEqDiff, Nat.reduceAdd, Nat.reduceSub, Nat.reduceMul, Nat.reduceLT, Nat.reduceLeDiff, Int.reduceLE, Int.reduceLT, Int.reduceAdd, Int.reduceSub, Int.reduceMul, Int.reduceEq, Int.reduceBEq, Int.reduceBNe, Int.reduceNeg, Int.reduceToNat, reduceCtorEq]
  refine rdC_q (part_c w.rust p ⟨by omega, by omega, by omega⟩ h0 h1).v ?_
  simp only [go_sem, beginT, ↓reduceIte, Nat.reduceEqDiff, Nat.reduceAdd, Nat.reduceSub, Nat.reduceMul, Nat.reduceLT, Nat.reduceLeDiff, Int.reduceLE, Int.reduceLT, Int.reduceAdd, Int.reduceSub, Int.reduceMul, Int.reduceEq, Int.reduceBEq, Int.reduceBNe, Int.reduceNeg, Int.reduceToNat, reduceCtorEq]

def rustT (k : KindD) (u : UseD) (p : Int) : Int :=
  if u.washed then ((partD k.salt p * partD u.salt p + partD k.stand p) * k.wash + 999 * (p % 2)) / 1000 else partD k.salt p * partD u.salt p + partD k.stand p
def grownT (k : KindD) (x : TruthD) (u : UseD) (p : Int) : TruthD := ⟨min 10000000 (x.minutes + partD u.minutes p), min 10000000 (x.cycles + partD u.cycles p), min 10000000 (x.rust + rustT k u p)⟩
def okT (x : TruthD) : Prop := 0 ≤ x.minutes ∧ x.minutes ≤ 10000000 ∧ 0 ≤ x.cycles ∧ x.cycles ≤ 10000000 ∧ 0 ≤ x.rust ∧ x.rust ≤ 10000000

theorem grown_c (k : KindD) (x : TruthD) (u : UseD) (p : Int) (hk : kindB k = true) (hx : okT x) (hu : dayB u = true) (h0 : 0 ≤ p) (h1 : p ≤ 100) : DCall Try.prog w0 27 [.agg k.c, .agg x.c, .agg u.c, .int .i64 p] h (.agg (grownT k x u p).c) h := by
  refine DCall_quiet hmix mf27_ok mf27_b mf27_g (Nat.le_of_ble_eq_true rfl) (by simp [AV.bdd, AV.bdds]) fun hb ha => ex_in ?_
  have bk := kindB_spec hk
  have bu := dayB_spec hu
  obtain ⟨x1, x2, x3, x4, x5, x6⟩ := hx
  have q1 := partD_in (s := k.salt) (by omega) h0 h1
  have q2 := partD_in (s := u.salt) (by omega) h0 h1
  have q3 := partD_in (s := k.stand) (by omega) h0 h1
  have q4 := partD_in (s := u.minutes) (by omega) h0 h1
  have q5 := partD_in (s := u.cycles) (by omega) h0 h1
  have m1 := mul_bd (a := partD k.salt p) (A := 10000) (b := partD u.salt p) (B := 200) (by omega) (by omega) (by omega) (by omega)
  have m3 := mul_bd (a := partD k.salt p * partD u.salt p + partD k.stand p) (A := 2010000) (b := k.wash) (B := 1000) (by omega) (by omega) (by omega) (by omega)
  have e1 : p.tmod 2 = p % 2 := Int.tmod_eq_emod_of_nonneg h0
  have e2 : 0 ≤ p % 2 ∧ p % 2 ≤ 1 := by omega
  have d1 : ((partD k.salt p * partD u.salt p + partD k.stand p) * k.wash + 999 * (p % 2)).tdiv 1000 = ((partD k.salt p * partD u.salt p + partD k.stand p) * k.wash + 999 * (p % 2)) / 1000 := Int.tdiv_eq_ediv_of_nonneg (by omega)
  simp only [go_sem, mf27, ↓reduceIte, Nat.reduceEqDiff, Nat.reduceAdd, Nat.reduceSub, Nat.reduceMul, Nat.reduceLT, Nat.reduceLeDiff, Int.reduceLE, Int.reduceLT, Int.reduceAdd, Int.reduceSub, Int.reduceMul, Int.reduceEq, Int.reduceBEq, Int.reduceBNe, Int.reduceNeg, Int.reduceToNat, reduceCtorEq]
  refine rdC_q (part_c k.salt p ⟨by omega, by omega, by omega⟩ h0 h1).v ?_
  simp only [go_sem, ↓reduceIte, Nat.reduceEqDiff, Nat.reduceAdd, Nat.reduceSub, Nat.reduceMul, Nat.reduceLT, Nat.reduceLeDiff, Int.reduceLE, Int.reduceLT, Int.reduceAdd, Int.reduceSub, Int.reduceMul, Int.reduceEq, Int.reduceBEq, Int.reduceBNe, Int.reduceNeg, Int.reduceToNat, reduceCtorEq]
  refine rdC_q (part_c u.salt p ⟨by omega, by omega, by omega⟩ h0 h1).v ?_
  simp only [go_sem, ↓reduceIte, Nat.reduceEqDiff, Nat.reduceAdd, Nat.reduceSub, Nat.reduceMul, Nat.reduceLT, Nat.reduceLeDiff, Int.reduceLE, Int.reduceLT, Int.reduceAdd, Int.reduceSub, Int.reduceMul, Int.reduceEq, Int.reduceBEq, Int.reduceBNe, Int.reduceNeg, Int.reduceToNat, reduceCtorEq]
  refine ⟨(by unfold I64; omega), ?_⟩
  refine rdC_q (part_c k.stand p ⟨by omega, by omega, by omega⟩ h0 h1).v ?_
  simp only [go_sem, ↓reduceIte, Nat.reduceEqDiff, Nat.reduceAdd, Nat.reduceSub, Nat.reduceMul, Nat.reduceLT, Nat.reduceLeDiff, Int.reduceLE, Int.reduceLT, Int.reduceAdd, Int.reduceSub, Int.reduceMul, Int.reduceEq, Int.reduceBEq, Int.reduceBNe, Int.reduceNeg, Int.reduceToNat, reduceCtorEq]
  refine ⟨(by unfold I64; omega), ?_⟩
  have hr : 0 ≤ rustT k u p ∧ rustT k u p ≤ 2010001 := by
    simp only [rustT]
    split <;> omega
  refine ⟨fun ew => ?_, fun ew => ?_⟩
  · simp only [go_sem, e1, d1, ↓reduceIte, Nat.reduceEqDiff, Nat.reduceAdd, Nat.reduceSub, Nat.reduceMul, Nat.reduceLT, Nat.reduceLeDiff, Int.reduceLE, Int.reduceLT, Int.reduceAdd, Int.reduceSub, Int.reduceMul, Int.reduceEq, Int.reduceBEq, Int.reduceBNe, Int.reduceNeg, Int.reduceToNat, reduceCtorEq]
    have er : ((partD k.salt p * partD u.salt p + partD k.stand p) * k.wash + 999 * (p % 2)) / 1000 = rustT k u p := by rw [rustT, if_pos ew]
    refine ⟨(by unfold I64; omega), (by unfold I64; omega), (by unfold I64; omega), (by unfold I64; omega), ?_⟩
    rw [er]
    refine rdC_q (part_c u.minutes p ⟨by omega, by omega, by omega⟩ h0 h1).v ?_
    simp only [go_sem, ↓reduceIte, Nat.reduceEqDiff, Nat.reduceAdd, Nat.reduceSub, Nat.reduceMul, Nat.reduceLT, Nat.reduceLeDiff, Int.reduceLE, Int.reduceLT, Int.reduceAdd, Int.reduceSub, Int.reduceMul, Int.reduceEq, Int.reduceBEq, Int.reduceBNe, Int.reduceNeg, Int.reduceToNat, reduceCtorEq]
    refine ⟨(by unfold I64; omega), ?_⟩
    refine rdC_q (part_c u.cycles p ⟨by omega, by omega, by omega⟩ h0 h1).v ?_
    simp only [go_sem, ↓reduceIte, Nat.reduceEqDiff, Nat.reduceAdd, Nat.reduceSub, Nat.reduceMul, Nat.reduceLT, Nat.reduceLeDiff, Int.reduceLE, Int.reduceLT, Int.reduceAdd, Int.reduceSub, Int.reduceMul, Int.reduceEq, Int.reduceBEq, Int.reduceBNe, Int.reduceNeg, Int.reduceToNat, reduceCtorEq]
    exact ⟨(by unfold I64; omega), (by unfold I64; omega), rfl⟩
  · have er : partD k.salt p * partD u.salt p + partD k.stand p = rustT k u p := by rw [rustT, if_neg (by simp [ew])]
    rw [er]
    refine rdC_q (part_c u.minutes p ⟨by omega, by omega, by omega⟩ h0 h1).v ?_
    simp only [go_sem, ↓reduceIte, Nat.reduceEqDiff, Nat.reduceAdd, Nat.reduceSub, Nat.reduceMul, Nat.reduceLT, Nat.reduceLeDiff, Int.reduceLE, Int.reduceLT, Int.reduceAdd, Int.reduceSub, Int.reduceMul, Int.reduceEq, Int.reduceBEq, Int.reduceBNe, Int.reduceNeg, Int.reduceToNat, reduceCtorEq]
    refine ⟨(by unfold I64; omega), ?_⟩
    refine rdC_q (part_c u.cycles p ⟨by omega, by omega, by omega⟩ h0 h1).v ?_
    simp only [go_sem, ↓reduceIte, Nat.reduceEqDiff, Nat.reduceAdd, Nat.reduceSub, Nat.reduceMul, Nat.reduceLT, Nat.reduceLeDiff, Int.reduceLE, Int.reduceLT, Int.reduceAdd, Int.reduceSub, Int.reduceMul, Int.reduceEq, Int.reduceBEq, Int.reduceBNe, Int.reduceNeg, Int.reduceToNat, reduceCtorEq]
    exact ⟨(by unfold I64; omega), (by unfold I64; omega), rfl⟩

theorem inside_c (n : Int) (s : Span) : DCall Try.prog w0 30 [.int .i64 n, .agg s.c] h (.bool (inB n s.low s.high)) h := by
  refine DCall_quiet hmix mf30_ok mf30_b mf30_g (Nat.le_of_ble_eq_true rfl) (by simp [AV.bdd, AV.bdds]) fun hb ha => ex_in ?_
  simp only [go_sem, mf30, ↓reduceIte, Nat.reduceEqDiff, Nat.reduceAdd, Nat.reduceSub, Nat.reduceMul, Nat.reduceLT, Nat.reduceLeDiff, Int.reduceLE, Int.reduceLT, Int.reduceAdd, Int.reduceSub, Int.reduceMul, Int.reduceEq, Int.reduceBEq, Int.reduceBNe, Int.reduceNeg, Int.reduceToNat, reduceCtorEq]
  exact ⟨fun a => by simp [inB, a], fun a => by simp [inB]; omega⟩
def withinT (x : TruthD) (w : WearD) : Bool := inB x.minutes w.minutes.low w.minutes.high && inB x.cycles w.cycles.low w.cycles.high && inB x.rust w.rust.low w.rust.high
theorem within_t (x : TruthD) (w : WearD) : DCall Try.prog w0 45 [.agg x.c, .agg w.c] h (.bool (withinT x w)) h := by
  refine DCall_quiet hmix mf45_ok mf45_b mf45_g (Nat.le_of_ble_eq_true rfl) (by simp [AV.bdd, AV.bdds]) fun hb ha => ex_in ?_
  simp only [go_sem, mf45, ↓reduceIte, Nat.reduceEqDiff, Nat.reduceAdd, Nat.reduceSub, Nat.reduceMul, Nat.reduceLT, Nat.reduceLeDiff, Int.reduceLE, Int.reduceLT, Int.reduceAdd, Int.reduceSub, Int.reduceMul, Int.reduceEq, Int.reduceBEq, Int.reduceBNe, Int.reduceNeg, Int.reduceToNat, reduceCtorEq]
  repeat' first | (refine rvC_use (inside_c _ _).v ?_; simp only [go_sem, ↓reduceIte, Nat.reduceEqDiff, Nat.reduceAdd, Nat.reduceSub, Nat.reduceMul, Nat.reduceLT, Nat.reduceLeDiff, Int.reduceLE, Int.reduceLT, Int.reduceAdd, Int.reduceSub, Int.reduceMul, Int.reduceEq, Int.reduceBEq, Int.reduceBNe, Int.reduceNeg, Int.reduceToNat, reduceCtorEq]) | (refine rdC_q (inside_c _ _).v ?_; simp only [go_sem, ↓reduceIte, Nat.reduceEqDiff, Nat.reduceAdd, Nat.reduceSub, Nat.reduceMul, Nat.reduceLT, Nat.reduceLeDiff, Int.reduceLE, Int.reduceLT, Int.reduceAdd, Int.reduceSub, Int.reduceMul, Int.reduceEq, Int.reduceBEq, Int.reduceBNe, Int.reduceNeg, Int.reduceToNat, reduceCtorEq]) | (refine And.intro ?_ ?_) | (intro _)
  all_goals simp_all [withinT]
def beyondT (k : KindD) (x : TruthD) : Bool := decide (k.minutes < x.minutes) || (decide (k.cycles < x.cycles) || decide (k.rust < x.rust))
theorem beyond_c (k : KindD) (x : TruthD) : DCall Try.prog w0 29 [.agg k.c, .agg x.c] h (.bool (beyondT k x)) h := by
  refine DCall_quiet hmix mf29_ok mf29_b mf29_g (Nat.le_of_ble_eq_true rfl) (by simp [AV.bdd, AV.bdds]) fun hb ha => ex_in ?_
  by_cases a : k.minutes < x.minutes <;> by_cases b : k.cycles < x.cycles <;> simp only [go_sem, mf29, a, b, ↓reduceIte, Nat.reduceEqDiff, Nat.reduceAdd, Nat.reduceSub, Nat.reduceMul, Nat.reduceLT, Nat.reduceLeDiff, Int.reduceLE, Int.reduceLT, Int.reduceAdd, Int.reduceSub, Int.reduceMul, Int.reduceEq, Int.reduceBEq, Int.reduceBNe, Int.reduceNeg, Int.reduceToNat, reduceCtorEq] <;> simp [beyondT, a, b]
def percB (l : List Int) : Bool := l.all fun x => inB x 0 100
theorem percents_c (l : List Int) (v : AV) (hv : SlI w0 h v l) (hl : l.length ≤ 9223372036854775807) : DCall Try.prog w0 25 [v] h (.bool (percB l)) h := by
  refine DCall_quiet hmix mf25_ok mf25_b mf25_g (Nat.le_of_ble_eq_true rfl) (by simp [AV.bdd, AV.bdds]) fun hb ha => ex_in ?_
  obtain ⟨ln1, q1, ix1, row1⟩ := hv.use
  simp only [go_sem, mf25, ↓reduceIte, Nat.reduceEqDiff, Nat.reduceAdd, Nat.reduceSub, Nat.reduceMul, Nat.reduceLT, Nat.reduceLeDiff, Int.reduceLE, Int.reduceLT, Int.reduceAdd, Int.reduceSub, Int.reduceMul, Int.reduceEq, Int.reduceBEq, Int.reduceBNe, Int.reduceNeg, Int.reduceToNat, reduceCtorEq]
  refine lp_all (fun j => [(0, v), (3, .int .i64 j)]) (fun j => ∀ hj : j < l.length, inB l[j] 0 100 = true) l.length rfl (fun j hj hi ih => ?_) (fun hi => ?_)
  · refine lp_step hmix L25_0_g [0, 3] L25_0.eq_1 ?_
    have e1 := ix1 j hj
    have e2 := row1 j hj
    have e3 : (j : Int) < l.length := by omega
    have hno : inB l[j] 0 100 = false → percB l = false := fun e => List.all_eq_false.2 ⟨_, List.getElem_mem hj, by simp [e]⟩
    simp only [go_sem, e1, e2, e3, ln1, ↓reduceIte, Nat.reduceEqDiff, Nat.reduceAdd, Nat.reduceSub, Nat.reduceMul, Nat.reduceLT, Nat.reduceLeDiff, Int.reduceLE, Int.reduceLT, Int.reduceAdd, Int.reduceSub, Int.reduceMul, Int.reduceEq, Int.reduceBEq, Int.reduceBNe, Int.reduceNeg, Int.reduceToNat, reduceCtorEq]
    refine ⟨fun a => ⟨fun b => ?_, fun b => ⟨(by unfold I64; omega), ih fun _ => by simp only [inB, Bool.and_eq_true, decide_eq_true_eq]; omega⟩⟩, fun a => ?_⟩
    · rw [hno (by simp [inB]; omega)]
    · rw [hno (by simp [inB]; omega)]
  · refine lp_step hmix L25_0_g [0, 3] L25_0.eq_1 ?_
    have e3 : ¬ (l.length : Int) < l.length := by omega
    simp only [go_sem, e3, ln1, ↓reduceIte, Nat.reduceEqDiff, Nat.reduceAdd, Nat.reduceSub, Nat.reduceMul, Nat.reduceLT, Nat.reduceLeDiff, Int.reduceLE, Int.reduceLT, Int.reduceAdd, Int.reduceSub, Int.reduceMul, Int.reduceEq, Int.reduceBEq, Int.reduceBNe, Int.reduceNeg, Int.reduceToNat, reduceCtorEq]
    have : percB l = true := List.all_eq_true.2 fun x hx => by
      obtain ⟨i, hi', rfl⟩ := List.getElem_of_mem hx
      exact hi i hi' hi'
    rw [this]
end Go.Proofs.Ab

namespace Go.Proofs.Ab
open Go Go.Proofs
variable {w0 : World} {h : Heap}
attribute [local irreducible] ACall ACallV AYield DCall DCallV rvC rdC lp rg dr ex un rv rd'

theorem mul_le2 {a b c d : Int} (h1 : a ≤ b) (h2 : c ≤ d) (h3 : 0 ≤ a) (h4 : 0 ≤ c) : a * c ≤ b * d := Int.mul_le_mul h1 h2 h4 (Int.le_trans h3 h1)
theorem rustT_in {k : KindD} {u : UseD} {p : Int} (hk : kindB k = true) (hu : dayB u = true) (h0 : 0 ≤ p) (h1 : p ≤ 100) : (rustOf k u).low ≤ rustT k u p ∧ rustT k u p ≤ (rustOf k u).high := by
  have bk := kindB_spec hk
  have bu := dayB_spec hu
  have q1 := partD_in (s := k.salt) (by omega) h0 h1
  have q2 := partD_in (s := u.salt) (by omega) h0 h1
  have q3 := partD_in (s := k.stand) (by omega) h0 h1
  have m1 := mul_le2 q1.1 q2.1 (by omega) (by omega)
  have m2 := mul_le2 q1.2 q2.2 (by omega) (by omega)
  have n1 : 0 ≤ k.salt.low * u.salt.low := Int.mul_nonneg (by omega) (by omega)
  have m3 : (k.salt.low * u.salt.low + k.stand.low) * k.wash ≤ (partD k.salt p * partD u.salt p + partD k.stand p) * k.wash := Int.mul_le_mul_of_nonneg_right (by omega) (by omega)
  have m4 : (partD k.salt p * partD u.salt p + partD k.stand p) * k.wash ≤ (k.salt.high * u.salt.high + k.stand.high) * k.wash := Int.mul_le_mul_of_nonneg_right (by omega) (by omega)
  simp only [rustOf, rustT]
  split <;> simp only <;> omega
theorem grownT_ok {k : KindD} {x : TruthD} {u : UseD} {p : Int} (hk : kindB k = true) (hu : dayB u = true) (hx : okT x) (h0 : 0 ≤ p) (h1 : p ≤ 100) : okT (grownT k x u p) := by
  have bu := dayB_spec hu
  have q4 := partD_in (s := u.minutes) (by omega) h0 h1
  have q5 := partD_in (s := u.cycles) (by omega) h0 h1
  have q6 := rustT_in hk hu h0 h1
  have br := rust_spec hk hu
  obtain ⟨x1, x2, x3, x4, x5, x6⟩ := hx
  simp only [okT, grownT]
  omega
theorem grownT_in {k : KindD} {x : TruthD} {w : WearD} {u : UseD} {p : Int} (hk : kindB k = true) (hw : wornB w = true) (hu : dayB u = true) (h0 : 0 ≤ p) (h1 : p ≤ 100) (hx : withinT x w = true) : withinT (grownT k x u p) (growS k w u) = true := by
  have bw := wornB_spec hw
  have bu := dayB_spec hu
  have q4 := partD_in (s := u.minutes) (by omega) h0 h1
  have q5 := partD_in (s := u.cycles) (by omega) h0 h1
  have q6 := rustT_in hk hu h0 h1
  have br := rust_spec hk hu
  simp only [withinT, inB, Bool.and_eq_true, decide_eq_true_eq] at hx ⊢
  simp only [grownT, growS, sumS, plus]
  omega
theorem beginT_in {w : WearD} {p : Int} (hw : wornB w = true) (h0 : 0 ≤ p) (h1 : p ≤ 100) : withinT (beginT w p) w = true := by
  have bw := wornB_spec hw
  have q1 := partD_in (s := w.minutes) (by omega) h0 h1
  have q2 := partD_in (s := w.cycles) (by omega) h0 h1
  have q3 := partD_in (s := w.rust) (by omega) h0 h1
  simp only [withinT, inB, beginT, q1.1, q1.2, q2.1, q2.2, q3.1, q3.2, decide_true, Bool.and_self]
theorem withinT_ok {x : TruthD} {w : WearD} (hw : wornB w = true) (hx : withinT x w = true) : okT x := by
  have bw := wornB_spec hw
  simp only [withinT, inB, Bool.and_eq_true, decide_eq_true_eq] at hx
  simp only [okT]; omega
theorem not_beyond {k : KindD} {x : TruthD} {w : WearD} (hx : withinT x w = true) (h : withinB Span.high k w = true) : beyondT k x = false := by
  simp only [withinT, inB, withinB, Bool.and_eq_true, decide_eq_true_eq] at hx h
  simp only [beyondT, Bool.or_eq_false_iff, decide_eq_false_iff_not]
  omega
theorem lastL_le {en : Span → Int} {k : KindD} : ∀ (us : List UseD) (t0 : Nat) (w : WearD), lastL en k (daysL k us t0 w) ((t0 : Int) - 1) ≤ (t0 : Int) - 1 + us.length
  | [], t0, w => by simp [daysL, lastL]
  | u :: us, t0, w => by
    have := lastL_le (en := en) (k := k) us (t0 + 1) (growS k w u)
    rw [show ((t0 + 1 : Nat) : Int) - 1 = t0 by omega] at this
    simp only [daysL, lastL, List.length_cons]
    split <;> omega
theorem within_high_low {k : KindD} {w : WearD} (hw : wornB w = true) (h : withinB Span.high k w = true) : withinB Span.low k w = true := by
  have bw := wornB_spec hw
  simp only [withinB, Bool.and_eq_true, decide_eq_true_eq] at h ⊢
  omega
theorem lastL_hl {k : KindD} (hk : kindB k = true) : ∀ (us : List UseD) (t0 : Nat) (w : WearD) (last : Int), wornB w = true → (∀ u ∈ us, dayB u = true) → last < t0 → lastL Span.high k (daysL k us t0 w) last ≤ lastL Span.low k (daysL k us t0 w) last
  | [], _, _, _, _, _, _ => by simp [daysL, lastL]
  | u :: us, t0, w, last, hw, hu, hl => by
    have hw1 := grow_worn hk hw (hu u List.mem_cons_self)
    simp only [daysL, lastL]
    by_cases e : withinB Span.high k (growS k w u) = true
    · rw [if_pos e, if_pos (within_high_low hw1 e)]
      exact lastL_hl hk us (t0 + 1) _ t0 hw1 (fun x hx => hu x (List.mem_cons_of_mem _ hx)) (by omega)
    · rw [if_neg e]
      split
      · have := lastL_ge (en := Span.low) (k := k) us (t0 + 1) (growS k w u) t0 (by omega); omega
      · exact Int.le_refl _
theorem lastsD_bounds {b : BayD} (hB : bayB b = true) {s : Nat} (hs : s < b.slots.length) {night : Int} (hn : -1 ≤ night) (hn2 : night < b.days.length) :
    night ≤ lastsD Span.high b s night ∧ lastsD Span.high b s night ≤ lastsD Span.low b s night ∧ lastsD Span.low b s night < b.days.length := by
  have bs := bayB_spec hB
  have e : (((night + 1).toNat : Nat) : Int) - 1 = night := by omega
  have h1 := lastL_ge (en := Span.high) (k := kindOf b s) (b.days.drop (night + 1).toNat) (night + 1).toNat (beginW b s night) night (by omega)
  have h2 := lastL_hl (kindOf_ok hB hs) (b.days.drop (night + 1).toNat) (night + 1).toNat (beginW b s night) night (beginW_ok hB hs night) (fun u hu => bs.2.2.2.2.2.2.2.2.2.2.2.2.1 _ (List.mem_of_mem_drop hu)) (by omega)
  have h3 := lastL_le (en := Span.low) (k := kindOf b s) (b.days.drop (night + 1).toNat) (night + 1).toNat (beginW b s night)
  rw [e, List.length_drop] at h3
  simp only [lastsD]
  omega
def truthL (k : KindD) (x : TruthD) : List (UseD × Int) → TruthD
  | [] => x
  | u :: l => truthL k (grownT k x u.1 u.2) l

theorem WearWithin_c (b : BayD) (v : BayV) (slot night first : Int) (wl : List Int) (wv : AV) (hS : BayS w0 h b v) (hW : SlI w0 h wv wl) (hwl : wl.length ≤ 9223372036854775807) :
    DCall Try.prog w0 10 [.agg (bayC b v), .int .i64 slot, .int .i64 night, .int .i64 first, wv] h (.bool true) h := by
  refine DCall_quiet hmix mf10_ok mf10_b mf10_g (Nat.le_of_ble_eq_true rfl) (by simp [AV.bdd, AV.bdds]) fun hb ha => ex_in ?_
  have o1 := hS.kinds.one.1
  have o2 := hS.slots.one.1
  have o3 := hS.days.one.1
  have o4 := hS.nights.one.1
  have o5 := hS.defs.one.1
  have l1 := hS.slots.use.1
  have l2 := hS.days.use.1
  obtain ⟨ln, q, ix, row⟩ := hW.use
  simp only [List.length_map] at l1 l2
  simp only [go_sem, mf10, o1, o2, o3, o4, o5, ↓reduceIte, Nat.reduceEqDiff, Nat.reduceAdd, Nat.reduceSub, Nat.reduceMul, Nat.reduceLT, Nat.reduceLeDiff, Int.reduceLE, Int.reduceLT, Int.reduceAdd, Int.reduceSub, Int.reduceMul, Int.reduceEq, Int.reduceBEq, Int.reduceBNe, Int.reduceNeg, Int.reduceToNat, reduceCtorEq]
  refine rvC_use (short_c b v hS.app).v ?_
  simp only [go_sem, ↓reduceIte, Nat.reduceEqDiff, Nat.reduceAdd, Nat.reduceSub, Nat.reduceMul, Nat.reduceLT, Nat.reduceLeDiff, Int.reduceLE, Int.reduceLT, Int.reduceAdd, Int.reduceSub, Int.reduceMul, Int.reduceEq, Int.reduceBEq, Int.reduceBNe, Int.reduceNeg, Int.reduceToNat, reduceCtorEq]
  refine ⟨fun e1 => ?_, fun e1 => ?_⟩
  rotate_left
  · refine rvC_use known_c.v ?_
    simp only [go_sem, ↓reduceIte, Nat.reduceEqDiff, Nat.reduceAdd, Nat.reduceSub, Nat.reduceMul, Nat.reduceLT, Nat.reduceLeDiff, Int.reduceLE, Int.reduceLT, Int.reduceAdd, Int.reduceSub, Int.reduceMul, Int.reduceEq, Int.reduceBEq, Int.reduceBNe, Int.reduceNeg, Int.reduceToNat, reduceCtorEq]
  have hR := hS.R e1
  refine rvC_use (rbay_c b v hR.app).v ?_
  simp only [go_sem, l1, l2, ln, ↓reduceIte, Nat.reduceEqDiff, Nat.reduceAdd, Nat.reduceSub, Nat.reduceMul, Nat.reduceLT, Nat.reduceLeDiff, Int.reduceLE, Int.reduceLT, Int.reduceAdd, Int.reduceSub, Int.reduceMul, Int.reduceEq, Int.reduceBEq, Int.reduceBNe, Int.reduceNeg, Int.reduceToNat, reduceCtorEq]
  refine ⟨fun eb => ?_, fun eb => ?_⟩
  rotate_left
  · refine rvC_use known_c.v ?_
    simp only [go_sem, ↓reduceIte, Nat.reduceEqDiff, Nat.reduceAdd, Nat.reduceSub, Nat.reduceMul, Nat.reduceLT, Nat.reduceLeDiff, Int.reduceLE, Int.reduceLT, Int.reduceAdd, Int.reduceSub, Int.reduceMul, Int.reduceEq, Int.reduceBEq, Int.reduceBNe, Int.reduceNeg, Int.reduceToNat, reduceCtorEq]
  by_cases hv : 0 ≤ slot ∧ slot < b.slots.length ∧ -1 ≤ night ∧ night < b.days.length ∧ 0 ≤ first ∧ first ≤ 100 ∧ wl.length = b.days.length
  rotate_left
  · repeat' first | omega | (refine And.intro ?_ ?_) | (intro _) | (refine rvC_use known_c.v ?_; simp only [go_sem, ↓reduceIte, Nat.reduceEqDiff, Nat.reduceAdd, Nat.reduceSub, Nat.reduceMul, Nat.reduceLT, Nat.reduceLeDiff, Int.reduceLE, Int.reduceLT, Int.reduceAdd, Int.reduceSub, Int.reduceMul, Int.reduceEq, Int.reduceBEq, Int.reduceBNe, Int.reduceNeg, Int.reduceToNat, reduceCtorEq])
  · obtain ⟨v1, v2, v3, v4, v5, v6, v7⟩ := hv
    have bs := bayB_spec eb
    obtain ⟨s, rfl⟩ : ∃ s : Nat, slot = s := ⟨slot.toNat, by omega⟩
    have u1 : ¬ (s : Int) < 0 := by omega
    have u2 : ¬ (b.slots.length : Int) ≤ s := by omega
    have u3 : ¬ night < -1 := by omega
    have u4 : ¬ (b.days.length : Int) ≤ night := by omega
    have u5 : ¬ first < 0 := by omega
    have u6 : ¬ 100 < first := by omega
    have u7 : ((wl.length : Int) != b.days.length) = false := by simp [v7]
    simp only [go_sem, u1, u2, u3, u4, u5, u6, u7, ↓reduceIte, Nat.reduceEqDiff, Nat.reduceAdd, Nat.reduceSub, Nat.reduceMul, Nat.reduceLT, Nat.reduceLeDiff, Int.reduceLE, Int.reduceLT, Int.reduceAdd, Int.reduceSub, Int.reduceMul, Int.reduceEq, Int.reduceBEq, Int.reduceBNe, Int.reduceNeg, Int.reduceToNat, reduceCtorEq]
    refine ⟨fun _ => ?_, fun e => by omega⟩
    refine rvC_use (percents_c wl wv (Sl.app hW) hwl).v ?_
    cases ep : percB wl with
    | false =>
      simp only [go_sem, ↓reduceIte, Nat.reduceEqDiff, Nat.reduceAdd, Nat.reduceSub, Nat.reduceMul, Nat.reduceLT, Nat.reduceLeDiff, Int.reduceLE, Int.reduceLT, Int.reduceAdd, Int.reduceSub, Int.reduceMul, Int.reduceEq, Int.reduceBEq, Int.reduceBNe, Int.reduceNeg, Int.reduceToNat, reduceCtorEq]
      refine rvC_use known_c.v ?_
      simp only [go_sem, ↓reduceIte, Nat.reduceEqDiff, Nat.reduceAdd, Nat.reduceSub, Nat.reduceMul, Nat.reduceLT, Nat.reduceLeDiff, Int.reduceLE, Int.reduceLT, Int.reduceAdd, Int.reduceSub, Int.reduceMul, Int.reduceEq, Int.reduceBEq, Int.reduceBNe, Int.reduceNeg, Int.reduceToNat, reduceCtorEq]
    | true =>
    simp only [go_sem, ↓reduceIte, Nat.reduceEqDiff, Nat.reduceAdd, Nat.reduceSub, Nat.reduceMul, Nat.reduceLT, Nat.reduceLeDiff, Int.reduceLE, Int.reduceLT, Int.reduceAdd, Int.reduceSub, Int.reduceMul, Int.reduceEq, Int.reduceBEq, Int.reduceBNe, Int.reduceNeg, Int.reduceToNat, reduceCtorEq]
    have hper : ∀ x ∈ wl, 0 ≤ x ∧ x ≤ 100 := fun x hx => by
      have := List.all_eq_true.1 ep x hx
      simpa [inB] using this
    have hs : s < b.slots.length := by omega
    have hL := Lasts_c (w0 := w0) (h := h ++ [some (.row (bayC b v))]) b v s night hR.app
    rw [show LastsV b s night = .tup [.int .i64 (lastsD Span.high b s night), .int .i64 (lastsD Span.low b s night), .int .i64 0] by
      have f2 : inB (s : Int) 0 (b.slots.length - 1) = true := by simp [inB]; omega
      have f3 : inB night (-1) (b.days.length - 1) = true := by simp [inB]; omega
      simp [LastsV, eb, f2, f3]] at hL
    refine rvC_use hL.v ?_
    obtain ⟨b1, b2, b3⟩ := lastsD_bounds eb hs v3 v4
    have hsure := fun (n : Nat) (h1 : night < n) (h2 : n < b.days.length) => lastsD_lt end_high eb hs v3 (n := n) h1 h2
    generalize lastsD Span.high b s night = sure at b1 b2 b3 hsure ⊢
    generalize lastsD Span.low b s night = may at b2 b3 ⊢
    have t1 : ¬ sure < night := by omega
    have t2 : ¬ may < sure := by omega
    have t3 : ¬ (b.days.length : Int) ≤ may := by omega
    simp only [go_sem, l2, t1, t2, t3, bne_self_eq_false, ↓reduceIte, Nat.reduceEqDiff, Nat.reduceAdd, Nat.reduceSub, Nat.reduceMul, Nat.reduceLT, Nat.reduceLeDiff, Int.reduceLE, Int.reduceLT, Int.reduceAdd, Int.reduceSub, Int.reduceMul, Int.reduceEq, Int.reduceBEq, Int.reduceBNe, Int.reduceNeg, Int.reduceToNat, reduceCtorEq]
    refine rvC_use (rkindOf_c b v s hR.app eb hs).v ?_
    obtain ⟨k, ek⟩ : ∃ k, k = kindOf b s := ⟨_, rfl⟩
    have hk : kindB k = true := ek ▸ kindOf_ok eb hs
    have hw0 := beginW_ok eb hs night
    obtain ⟨_, sp, s2, s3, _⟩ := hR.slots.use
    obtain ⟨_, dp, d2, d3, _⟩ := hR.days.use
    simp only [List.length_map] at s2 d2
    have a1 := s2 s hs
    have a2 : ∀ L, rdn w0 (h ++ L) (sp.add (s * 7)) 7 = some b.slots[s].c := fun L => rdn_app (s3 s _ (by simp [hs]))
    have a3 : ∀ L, rdn w0 (h ++ L) ((sp.add (s * 7)).add 1) 6 = some (WearD.c b.slots[s].wear) := fun L => (rdn_get (a2 L)).2 1 6 (by omega)
    rw [← ek]
    have key : ∀ x : TruthD, withinT x (beginW b s night) = true → lp Try.prog w0 none 159 (List.length h) (quietK w0 [RV.t 10] h (AV.bool true)) L10_0
          [It.inBlk 0, It.code ((SC.reg [MIx.call (some 158) none (Opd.k (AV.fn (Fn.func 17) [] [])) [], MIx.op (some 10) none (MOp.mov (Opd.t 158))]).seq SC.ret)]
          [(1, AV.int IntKind.i64 ↑s), (2, AV.int IntKind.i64 night), (4, wv), (5, AV.ptr (Pl.own (List.length h) 0)), (11, AV.int IntKind.i64 sure), (14, AV.ptr (Pl.own (List.length h + 1) 0)),
            (15, AV.ptr (Pl.own (List.length h + 2) 0)), (16, AV.int IntKind.i64 (night + 1))]
          (h ++ [some (.row (bayC b v)), some (.row k.c), some (.row x.c)]) := by
      intro x hx
      have haf0 : afterD b s night night = beginW b s night := by simp [afterD, aftL]
      refine lp_ind (S := Nat × TruthD) (F := fun t => [(1, AV.int IntKind.i64 ↑s), (2, AV.int IntKind.i64 night), (4, wv), (5, AV.ptr (Pl.own (List.length h) 0)), (11, AV.int IntKind.i64 sure), (14, AV.ptr (Pl.own (List.length h + 1) 0)),
            (15, AV.ptr (Pl.own (List.length h + 2) 0)), (16, AV.int IntKind.i64 (night + 1 + t.1))]) (H := fun t => h ++ [some (.row (bayC b v)), some (.row k.c), some (.row t.2.c)])
        (meas := fun t => b.days.length - t.1) (Inv := fun t => night + t.1 < b.days.length ∧ withinT t.2 (afterD b s night (night + t.1)) = true) (0, x) ⟨by simp only; omega, by simpa [haf0] using hx⟩ (by simp) rfl ?_
      rintro ⟨j, y⟩ ⟨hj, hy⟩ ih
      simp only at hj hy ih
      refine lp_step hmix L10_0_g [1, 2, 4, 5, 11, 14, 15, 16] L10_0.eq_1 ?_
      by_cases hjn : night + 1 + j < b.days.length
      · obtain ⟨d, hd⟩ : ∃ d : Nat, night + 1 + (j : Int) = d := ⟨(night + 1 + (j : Int)).toNat, by omega⟩
        have hdl : d < b.days.length := by omega
        have i1 := d2 d hdl
        have i2 : ∀ L, rdn w0 (h ++ L) (dp.add (d * 7)) 7 = some b.days[d].c := fun L => rdn_app (d3 d _ (by simp [hdl]))
        have i3 := ix d (by omega)
        have i4 := row d (by omega)
        have i5 := hper wl[d] (List.getElem_mem _)
        have hu : dayB b.days[d] = true := bs.2.2.2.2.2.2.2.2.2.2.2.2.1 _ (List.getElem_mem _)
        have hwd : wornB (afterD b s night (night + j)) = true := aftL_ok (kindOf_ok eb hs) hw0 fun u hu => bs.2.2.2.2.2.2.2.2.2.2.2.2.1 _ (List.mem_of_mem_drop (List.mem_of_mem_take hu))
        have hnx : afterD b s night d = growS k (afterD b s night (night + j)) b.days[d] := by
          have e1 : ((d : Int) - night).toNat = j + 1 := by omega
          have e2 : (night + j - night).toNat = j := by omega
          have hjd : j < (b.days.drop (night + 1).toNat).length := by rw [List.length_drop]; omega
          rw [afterD, afterD, e1, e2, take_succ' hjd, aftL, aftL, List.foldl_append, ek]
          simp only [List.getElem_drop, List.foldl_cons, List.foldl_nil]
          congr 2
          omega
        have hin := grownT_in hk hwd hu i5.1 i5.2 hy
        rw [← hnx] at hin
        have hok := withinT_ok hwd hy
        have ih2 := fun z hz => ih (j + 1, z) hz (by simp only; omega)
        clear ih
        simp only [show night + 1 + ((j + 1 : Nat) : Int) = d + 1 by omega, show night + ((j + 1 : Nat) : Int) = d by omega] at ih2
        rw [hd]
        have m1 : (d : Int) < b.days.length := by omega
        simp only [go_sem, m1, l2, i1, i2, i3, i4, ↓reduceIte, Nat.reduceEqDiff, Nat.reduceAdd, Nat.reduceSub, Nat.reduceMul, Nat.reduceLT, Nat.reduceLeDiff, Int.reduceLE, Int.reduceLT, Int.reduceAdd, Int.reduceSub, Int.reduceMul, Int.reduceEq, Int.reduceBEq, Int.reduceBNe, Int.reduceNeg, Int.reduceToNat, reduceCtorEq]
        refine rdC_q (grown_c k y b.days[d] wl[d] hk hok hu i5.1 i5.2).v ?_
        obtain ⟨z, ez⟩ : ∃ z, z = grownT k y b.days[d] wl[d] := ⟨_, rfl⟩
        rw [← ez] at hin ⊢
        simp only [go_sem, ↓reduceIte, Nat.reduceEqDiff, Nat.reduceAdd, Nat.reduceSub, Nat.reduceMul, Nat.reduceLT, Nat.reduceLeDiff, Int.reduceLE, Int.reduceLT, Int.reduceAdd, Int.reduceSub, Int.reduceMul, Int.reduceEq, Int.reduceBEq, Int.reduceBNe, Int.reduceNeg, Int.reduceToNat, reduceCtorEq]
        have hA := After_c (w0 := w0) (h := h ++ [some (.row (bayC b v)), some (.row k.c), some (.row z.c)]) b v s night d hR.app
        rw [show AfterV b s night d = .tup [.agg (afterD b s night d).c, .int .i64 0] by
          have f2 : inB (s : Int) 0 (b.slots.length - 1) = true := by simp [inB]; omega
          have f3 : inB night (-1) (b.days.length - 1) = true := by simp [inB]; omega
          have f4 : inB (d : Int) (night + 1) (b.days.length - 1) = true := by simp [inB]; omega
          simp [AfterV, eb, f2, f3, f4]] at hA
        refine rvC_use hA.v ?_
        have hsd := hsure d (by omega) hdl
        generalize afterD b s night d = w at hin hsd ih2 ⊢
        simp only [go_sem, bne_self_eq_false, ↓reduceIte, Nat.reduceEqDiff, Nat.reduceAdd, Nat.reduceSub, Nat.reduceMul, Nat.reduceLT, Nat.reduceLeDiff, Int.reduceLE, Int.reduceLT, Int.reduceAdd, Int.reduceSub, Int.reduceMul, Int.reduceEq, Int.reduceBEq, Int.reduceBNe, Int.reduceNeg, Int.reduceToNat, reduceCtorEq]
        refine rvC_use (within_t z w).v ?_
        simp only [go_sem, hin, ↓reduceIte, Nat.reduceEqDiff, Nat.reduceAdd, Nat.reduceSub, Nat.reduceMul, Nat.reduceLT, Nat.reduceLeDiff, Int.reduceLE, Int.reduceLT, Int.reduceAdd, Int.reduceSub, Int.reduceMul, Int.reduceEq, Int.reduceBEq, Int.reduceBNe, Int.reduceNeg, Int.reduceToNat, reduceCtorEq]
        have fin : lp Try.prog w0 none 159 (List.length h) (quietK w0 [RV.t 10] h (AV.bool true)) L10_0
          [It.inBlk 0, It.code ((SC.reg [MIx.call (some 158) none (Opd.k (AV.fn (Fn.func 17) [] [])) [], MIx.op (some 10) none (MOp.mov (Opd.t 158))]).seq SC.ret)]
          [(1, AV.int IntKind.i64 ↑s), (2, AV.int IntKind.i64 night), (4, wv), (5, AV.ptr (Pl.own (List.length h) 0)), (11, AV.int IntKind.i64 sure), (14, AV.ptr (Pl.own (List.length h + 1) 0)),
            (15, AV.ptr (Pl.own (List.length h + 2) 0)), (16, AV.int IntKind.i64 (d + 1))]
          (h ++ [some (.row (bayC b v)), some (.row k.c), some (.row z.c), some (.row w.c)]) :=
          lp_drop 3 hb (by simp [HBs_some, HBs_none, HBs_nil, FB_cons, FB_nil, row_bdd, AV.bdds, AV.bdd, Pl.bdd, loop_bddT, hR.kinds.bdd, hR.slots.bdd, hR.days.bdd, hR.nights.bdd, hR.defs.bdd, bayC]) (by simp [HBs_some, HBs_none, HBs_nil, FB_cons, FB_nil, row_bdd, AV.bdds, AV.bdd, Pl.bdd, loop_bddT, Sl.bdd hW]) (ih2 z ⟨by omega, hin⟩)
        by_cases hds : (d : Int) ≤ sure
        · have hbe : beyondT k z = false := by
            refine not_beyond hin ?_
            cases hq : withinB Span.high k w with
            | true => rfl
            | false => rw [← ek] at hsd; have := hsd.2 hq; omega
          simp only [go_sem, hds, ↓reduceIte, Nat.reduceEqDiff, Nat.reduceAdd, Nat.reduceSub, Nat.reduceMul, Nat.reduceLT, Nat.reduceLeDiff, Int.reduceLE, Int.reduceLT, Int.reduceAdd, Int.reduceSub, Int.reduceMul, Int.reduceEq, Int.reduceBEq, Int.reduceBNe, Int.reduceNeg, Int.reduceToNat, reduceCtorEq]
          refine rvC_use (beyond_c k z).v ?_
          simp only [go_sem, hbe, ↓reduceIte, Nat.reduceEqDiff, Nat.reduceAdd, Nat.reduceSub, Nat.reduceMul, Nat.reduceLT, Nat.reduceLeDiff, Int.reduceLE, Int.reduceLT, Int.reduceAdd, Int.reduceSub, Int.reduceMul, Int.reduceEq, Int.reduceBEq, Int.reduceBNe, Int.reduceNeg, Int.reduceToNat, reduceCtorEq]
          exact ⟨(by unfold I64; omega), by simpa [bayC, KindD.c, TruthD.c, WearD.c] using fin⟩
        · simp only [go_sem, hds, ↓reduceIte, Nat.reduceEqDiff, Nat.reduceAdd, Nat.reduceSub, Nat.reduceMul, Nat.reduceLT, Nat.reduceLeDiff, Int.reduceLE, Int.reduceLT, Int.reduceAdd, Int.reduceSub, Int.reduceMul, Int.reduceEq, Int.reduceBEq, Int.reduceBNe, Int.reduceNeg, Int.reduceToNat, reduceCtorEq]
          exact ⟨(by unfold I64; omega), by simpa [bayC, KindD.c, TruthD.c, WearD.c] using fin⟩
      · have m1 : ¬ night + 1 + (j : Int) < b.days.length := by omega
        simp only [go_sem, m1, l2, ↓reduceIte, Nat.reduceEqDiff, Nat.reduceAdd, Nat.reduceSub, Nat.reduceMul, Nat.reduceLT, Nat.reduceLeDiff, Int.reduceLE, Int.reduceLT, Int.reduceAdd, Int.reduceSub, Int.reduceMul, Int.reduceEq, Int.reduceBEq, Int.reduceBNe, Int.reduceNeg, Int.reduceToNat, reduceCtorEq]
        refine rvC_use known_c.v ?_
        simp only [go_sem, ↓reduceIte, Nat.reduceEqDiff, Nat.reduceAdd, Nat.reduceSub, Nat.reduceMul, Nat.reduceLT, Nat.reduceLeDiff, Int.reduceLE, Int.reduceLT, Int.reduceAdd, Int.reduceSub, Int.reduceMul, Int.reduceEq, Int.reduceBEq, Int.reduceBNe, Int.reduceNeg, Int.reduceToNat, reduceCtorEq]
    simp only [go_sem, a1, a3, ↓reduceIte, Nat.reduceEqDiff, Nat.reduceAdd, Nat.reduceSub, Nat.reduceMul, Nat.reduceLT, Nat.reduceLeDiff, Int.reduceLE, Int.reduceLT, Int.reduceAdd, Int.reduceSub, Int.reduceMul, Int.reduceEq, Int.reduceBEq, Int.reduceBNe, Int.reduceNeg, Int.reduceToNat, reduceCtorEq]
    refine ⟨fun e => ?_, fun e => ?_⟩
    · refine rvC_use (begin_t b.slots[s].wear first (by have := bs.2.2.2.2.2.2.2.2.2.2.2.1 _ (List.getElem_mem hs); exact this.2.2) v5 v6).v ?_
      simp only [go_sem, ↓reduceIte, Nat.reduceEqDiff, Nat.reduceAdd, Nat.reduceSub, Nat.reduceMul, Nat.reduceLT, Nat.reduceLeDiff, Int.reduceLE, Int.reduceLT, Int.reduceAdd, Int.reduceSub, Int.reduceMul, Int.reduceEq, Int.reduceBEq, Int.reduceBNe, Int.reduceNeg, Int.reduceToNat, reduceCtorEq]
      refine ⟨(by unfold I64; omega), ?_⟩
      have := key (beginT b.slots[s].wear first) (by
        have : beginW b s night = b.slots[s].wear := by simp [beginW, e, hs]
        rw [this]; exact beginT_in (bs.2.2.2.2.2.2.2.2.2.2.2.1 _ (List.getElem_mem hs)).2.2 v5 v6)
      simpa [bayC, KindD.c, TruthD.c] using this
    · refine ⟨(by unfold I64; omega), ?_⟩
      have := key ⟨0, 0, 0⟩ (by
        have : ¬ night < 0 := by omega
        simp [beginW, this, withinT, inB])
      simpa [bayC, KindD.c, TruthD.c] using this
end Go.Proofs.Ab

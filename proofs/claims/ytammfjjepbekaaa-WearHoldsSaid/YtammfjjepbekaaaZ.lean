/- The own layer under the proofs of this seat, part Z: what calls of the program come to on an abstract heap. No condition. -/
import Derived.Test.YtammfjjepbekaaaY
set_option linter.unusedSimpArgs false
set_option linter.unusedVariables false
namespace Go.Proofs.Ab
open Go Go.Proofs
variable {w0 : World} {h : Heap}
attribute [local irreducible] ACall ACallV AYield DCall DCallV rvC rdC lp rg dr ex un rv rd'

theorem app_grow {H : Heap} {es b n io k : Nat} {ov : AV} {vs x : List AV} {f : Bool} (hov : n = 0 ∧ ov = .nilS ∧ vs = [] ∨ n ≠ 0 ∧ ov = .sl (.own io 0) n es false ∧ H[io]? = some (some (.row vs)) ∧ vs.length = n * es)
    (hk : H[k]? = some (some (.row x))) (hx : x.length = es) (ho : x.all one = true) (hb : b ≤ 1000000) (hn : n ≤ 1000000) :
    ∃ G, appA w0 H es b ov (.sl (.own k 0) 1 es f) = some (.sl (.own H.length 0) (n + 1) es false, G) ∧ G.length = H.length + 1 ∧ G[H.length]? = some (some (.row (vs ++ x))) ∧ ∀ (i : Nat) c, (n ≠ 0 → i ≠ io) → H[i]? = some (some c) → G[i]? = some (some c) := by
  have r1 : rdn w0 H (.own k 0) (1 * es) = some x := by
    simp only [rdn, hk]; simp [hx]; rw [← hx]; simp
  rcases hov with ⟨h1, h2, h3⟩ | ⟨h1, h2, h3, h4⟩
  · subst h1; subst h2; subst h3
    refine ⟨H ++ [some (.row x)], ?_, by simp, by simp, fun i c _ e => getElem?_app_left e⟩
    simp only [appA, srcOf, esOk_s, if_true, r1, Option.map_some, Option.bind_some]
    rw [if_neg (by omega), if_pos ⟨by omega, ho⟩]
    simp [mkSl]
  · have hlt := get_lt h3
    have r2 : rdn w0 H (.own io 0) (n * es) = some vs := by
      simp only [rdn, h3]; simp [h4]; rw [← h4]; simp
    have hsz : (n + 1) * (b + 1) ≤ 2 ^ 40 := Nat.le_trans (Nat.mul_le_mul (show n + 1 ≤ 1000001 by omega) (show b + 1 ≤ 1000001 by omega)) (by decide)
    refine ⟨H.set io none ++ [some (.row (vs ++ x))], ?_, by simp, by simp, fun i c hi e => ?_⟩
    · rw [h2]
      simp only [appA, srcOf, esOk_s, if_true, r1, Option.map_some, Option.bind_some]
      rw [if_neg (by omega), if_pos ⟨trivial, hsz, ho⟩]
      simp only [Bool.false_eq_true, if_false, r2, Option.bind_some]
    · refine getElem?_app_left ?_
      rw [List.getElem?_set_ne fun e2 => hi h1 e2.symm]; exact e

theorem flat_len {α : Type} {f : α → List AV} {n : Nat} (hf : ∀ a, (f a).length = n) : ∀ (l : List α), (l.flatMap f).length = l.length * n
  | [] => by simp
  | a :: l => by rw [List.flatMap_cons, List.length_append, flat_len hf l, hf, List.length_cons, Nat.succ_mul]; omega
theorem flat_get {α : Type} {f : α → List AV} {n : Nat} (hf : ∀ a, (f a).length = n) : ∀ (l : List α) (s : Nat) (hs : s < l.length), ((l.flatMap f).drop (s * n)).take n = f l[s]
  | a :: l, 0, _ => by rw [List.flatMap_cons, Nat.zero_mul, List.drop_zero, List.take_append_of_le_length (by rw [hf]; exact Nat.le_refl _), List.take_of_length_le (by rw [hf]; exact Nat.le_refl _)]; rfl
  | a :: l, s + 1, hs => by
    have := flat_get hf l s (by simpa using hs)
    have e1 : (s + 1) * n = (f a).length + s * n := by rw [hf, Nat.succ_mul]; omega
    rw [List.flatMap_cons, e1, List.drop_length_add_append, this]; rfl
theorem flat_set {α : Type} {f : α → List AV} {n : Nat} (hf : ∀ a, (f a).length = n) (x : α) : ∀ (l : List α) (s : Nat), s < l.length → (l.flatMap f).take (s * n) ++ (f x ++ (l.flatMap f).drop (s * n + n)) = (l.set s x).flatMap f
  | a :: l, 0, _ => by
    rw [Nat.zero_mul, List.take_zero, List.nil_append, Nat.zero_add, List.set_cons_zero, List.flatMap_cons, List.flatMap_cons, List.drop_append_of_le_length (by rw [hf]; exact Nat.le_refl _), List.drop_of_length_le (by rw [hf]; exact Nat.le_refl _), List.nil_append]
  | a :: l, s + 1, hs => by
    have := flat_set hf x l s (by simpa using hs)
    have e1 : (s + 1) * n = (f a).length + s * n := by rw [hf, Nat.succ_mul]; omega
    have e2 : (s + 1) * n + n = (f a).length + (s * n + n) := by rw [hf, Nat.succ_mul]; omega
    rw [List.set_cons_succ, List.flatMap_cons, List.flatMap_cons, ← this, e2, e1, List.take_length_add_append, List.drop_length_add_append, List.append_assoc]
theorem flat_one {α : Type} {f : α → List AV} (ho : ∀ a, (f a).all one = true) : ∀ l : List α, (l.flatMap f).all one = true := fun l => by
  rw [List.all_eq_true]; intro x hx
  obtain ⟨a, _, h⟩ := List.mem_flatMap.1 hx
  exact List.all_eq_true.1 (ho a) x h
end Go.Proofs.Ab

namespace Go.Proofs.Ab
open Go

def putR (b : BayD) (t : List (List Int)) : Nat → List Int
  | 0 => List.replicate b.slots.length (-1)
  | n + 1 => putD n (putR b t n) ((t.getD n []).map Int.toNat)
theorem putR_len {b : BayD} {t : List (List Int)} : ∀ n, (putR b t n).length = b.slots.length
  | 0 => by simp [putR]
  | n + 1 => by rw [putR, putD_len, putR_len n]
theorem putR_bd {b : BayD} {t : List (List Int)} : ∀ n, ∀ x ∈ putR b t n, -1 ≤ x ∧ x < (n : Int)
  | 0 => by simp [putR]
  | n + 1 => putD_bd (putR_bd n)
theorem faultR_rule {b : BayD} {t : List (List Int)} {n : Nat} {p : List Int} {r o : Int} (h : faultR b t n p = some (r, o)) : r ≠ 1 := by
  unfold faultR at h
  repeat' split at h
  all_goals first
    | (simp only [Option.some.injEq, Prod.mk.injEq] at h; omega)
    | (cases h)
theorem rightR_fine {b : BayD} {t : List (List Int)} : ∀ (k n : Nat), (rightR b t k n (putR b t n)).2.1 = 1 → ∀ j, j < k → faultR b t (n + j) (putR b t (n + j)) = none
  | 0, _, _, j, hj => by omega
  | k + 1, n, h, j, hj => by
    simp only [rightR] at h
    cases hf : faultR b t n (putR b t n) with
    | some r =>
      rw [hf] at h
      exact absurd h (faultR_rule hf)
    | none =>
      rw [hf] at h
      cases j with
      | zero => exact hf
      | succ j =>
        have := rightR_fine k (n + 1) h j (by omega)
        rwa [show n + 1 + j = n + (j + 1) by omega] at this
theorem right_fine {b : BayD} (hB : bayB b = true) {t : List (List Int)} (hT : planB b t = true) (h : (rightD b t).2.1 = 1) {n : Nat} (hn : n < b.days.length) : faultR b t n (putR b t n) = none := by
  rw [rightD_eq hB hT] at h
  have := rightR_fine (b := b) (t := t) b.days.length 0 h n hn
  rwa [Nat.zero_add] at this
theorem idxOf_no {α : Type} {p : α → Bool} {l : List α} (h : ¬ 0 ≤ idxOf p l) : ∀ x ∈ l, p x = false := fun x hx => by
  have := idxOf_ge p l
  rw [decide_eq_false h] at this
  have := List.any_eq_false.1 this.symm x hx
  simpa using this
theorem fault_none {b : BayD} {t : List (List Int)} {n : Nat} {p : List Int} (h : faultR b t n p = none) :
    (∀ s, s < b.slots.length → withinB Span.high (kindOf b s) (afterD b s (p.getD s 0) n) = true) ∧ (0 < (t.getD n []).length → b.nights.getD n false = true) ∧ ((t.getD n []).length : Int) ≤ b.most ∧
      (∀ d ∈ b.defs, d.nights.high = (n : Int) → changedD t d.slot d.nights.low d.nights.high = true) := by
  unfold faultR at h
  split at h
  · cases h
  rename_i h1
  split at h
  · cases h
  rename_i h2
  split at h
  · cases h
  rename_i h3
  split at h
  · cases h
  rename_i h4
  refine ⟨fun s hs => ?_, fun h5 => ?_, by omega, fun d hd hh => ?_⟩
  · have := idxOf_no h1 s (List.mem_range.2 hs)
    simpa using this
  · have h5' : decide (0 < (t.getD n []).length) = true := decide_eq_true h5
    rw [h5', Bool.true_and] at h2
    simpa using h2
  · have := idxOf_no h4 d hd
    rw [hh] at this ⊢
    simpa using this
end Go.Proofs.Ab

namespace Go.Proofs.Ab
open Go Go.Proofs
variable {w0 : World} {h : Heap}
attribute [local irreducible] ACall ACallV AYield DCall DCallV rvC rdC lp rg dr ex un rv rd'

structure HoldI (h : Heap) (b : BayD) (v : BayV) (H : Heap) (io ir : Nat) (R Q : List AV) : Prop where
  hs : HSub h H
  b1 : H[h.length]? = some (some (.row (bayC b v)))
  b2 : H[io]? = some (some (.row R))
  b3 : H[ir]? = some (some (.row Q))
  n1 : h.length < io ∧ h.length < ir ∧ io ≠ ir
section
variable {b : BayD} {v : BayV} {H : Heap} {io ir : Nat} {R Q : List AV}
theorem HoldI.app (I : HoldI h b v H io ir R Q) (L : Heap) : HoldI h b v (H ++ L) io ir R Q := ⟨I.hs.app, getElem?_app_left I.b1, getElem?_app_left I.b2, getElem?_app_left I.b3, I.n1⟩
theorem HoldI.setO (I : HoldI h b v H io ir R Q) (R' : List AV) : HoldI h b v (H.set io (some (.row R'))) io ir R' Q := by
  have := I.n1
  refine ⟨⟨by rw [List.length_set]; exact I.hs.1, fun i c e => ?_⟩, by rw [List.getElem?_set_ne (by omega)]; exact I.b1, List.getElem?_set_self (get_lt I.b2), by rw [List.getElem?_set_ne (by omega)]; exact I.b3, this⟩
  have hi := get_lt e
  rw [List.getElem?_set_ne (by omega)]; exact I.hs.2 i c e
theorem HoldI.setR (I : HoldI h b v H io ir R Q) (Q' : List AV) : HoldI h b v (H.set ir (some (.row Q'))) io ir R Q' := by
  have := I.n1
  refine ⟨⟨by rw [List.length_set]; exact I.hs.1, fun i c e => ?_⟩, by rw [List.getElem?_set_ne (by omega)]; exact I.b1, by rw [List.getElem?_set_ne (by omega)]; exact I.b2, List.getElem?_set_self (get_lt I.b3), this⟩
  have hi := get_lt e
  rw [List.getElem?_set_ne (by omega)]; exact I.hs.2 i c e
end

theorem after_succ {b : BayD} {s : Nat} {night : Int} {d : Nat} (hn : -1 ≤ night) (h1 : night < d) (h2 : d < b.days.length) : afterD b s night d = growS (kindOf b s) (afterD b s night ((d : Int) - 1)) b.days[d] := by
  obtain ⟨j, hj⟩ : ∃ j : Nat, (d : Int) - night = j + 1 := ⟨((d : Int) - night - 1).toNat, by omega⟩
  have e1 : ((d : Int) - night).toNat = j + 1 := by omega
  have e2 : ((d : Int) - 1 - night).toNat = j := by omega
  have hjd : j < (b.days.drop (night + 1).toNat).length := by rw [List.length_drop]; omega
  rw [afterD, afterD, e1, e2, take_succ' hjd, aftL, aftL, List.foldl_append]
  simp only [List.getElem_drop, List.foldl_cons, List.foldl_nil]
  congr 2
  omega
theorem after_self {b : BayD} {s : Nat} {night : Int} : afterD b s night night = beginW b s night := by simp [afterD, aftL]
theorem after_ok {b : BayD} (hB : bayB b = true) {s : Nat} (hs : s < b.slots.length) (night day : Int) : wornB (afterD b s night day) = true :=
  aftL_ok (kindOf_ok hB hs) (beginW_ok hB hs night) fun u hu => (bayB_spec hB).2.2.2.2.2.2.2.2.2.2.2.2.1 _ (List.mem_of_mem_drop (List.mem_of_mem_take hu))
theorem getD_at {α : Type} {l : List α} {i : Nat} {d : α} (h : i < l.length) : l.getD i d = l[i] := by rw [List.getD_eq_getElem?_getD, List.getElem?_eq_getElem h]; rfl

set_option maxHeartbeats 4000000 in
theorem WearHolds_c (b : BayD) (v : BayV) (t : List (List Int)) (pv : AV) (first : Int) (wl : List Int) (wv : AV) (hS : BayS w0 h b v) (hP : LL w0 h pv t) (hl : t.length ≤ 9223372036854775807) (hW : SlI w0 h wv wl) (hwl : wl.length ≤ 9223372036854775807) :
    DCall Try.prog w0 5 [.agg (bayC b v), pv, .int .i64 first, wv] h (.bool true) h := by
  refine DCall_forget trivial (ACall_sx hmix mf5_ok mf5_b mf5_g (Nat.le_of_ble_eq_true rfl) fun hb ha => ex_in ?_)
  have o1 := hS.kinds.one.1
  have o2 := hS.slots.one.1
  have o3 := hS.days.one.1
  have o4 := hS.nights.one.1
  have o5 := hS.defs.one.1
  have l1 := hS.slots.use.1
  have l2 := hS.days.use.1
  obtain ⟨l3, _⟩ := hS.defs.use
  obtain ⟨ln, q, ix, row⟩ := hW.use
  simp only [List.length_map] at l1 l2 l3
  have fin : ∀ L, HSub h (h ++ L) := fun L => HSub.refl.app
  simp only [go_sem, mf5, o1, o2, o3, o4, o5, ↓reduceIte, Nat.reduceEqDiff, Nat.reduceAdd, Nat.reduceSub, Nat.reduceMul, Nat.reduceLT, Nat.reduceLeDiff, Int.reduceLE, Int.reduceLT, Int.reduceAdd, Int.reduceSub, Int.reduceMul, Int.reduceEq, Int.reduceBEq, Int.reduceBNe, Int.reduceNeg, Int.reduceToNat, reduceCtorEq]
  refine rvC_use (short_c b v hS.app).v ?_
  simp only [go_sem, ↓reduceIte, Nat.reduceEqDiff, Nat.reduceAdd, Nat.reduceSub, Nat.reduceMul, Nat.reduceLT, Nat.reduceLeDiff, Int.reduceLE, Int.reduceLT, Int.reduceAdd, Int.reduceSub, Int.reduceMul, Int.reduceEq, Int.reduceBEq, Int.reduceBNe, Int.reduceNeg, Int.reduceToNat, reduceCtorEq]
  refine ⟨fun e1 => ?_, fun e1 => ?_⟩
  rotate_left
  · refine rvC_use known_c.v ?_
    simp only [go_sem, ↓reduceIte, Nat.reduceEqDiff, Nat.reduceAdd, Nat.reduceSub, Nat.reduceMul, Nat.reduceLT, Nat.reduceLeDiff, Int.reduceLE, Int.reduceLT, Int.reduceAdd, Int.reduceSub, Int.reduceMul, Int.reduceEq, Int.reduceBEq, Int.reduceBNe, Int.reduceNeg, Int.reduceToNat, reduceCtorEq]
    exact fin _
  have hR := hS.R e1
  refine rvC_use (brief_c t pv hP.app hl).v ?_
  simp only [go_sem, ↓reduceIte, Nat.reduceEqDiff, Nat.reduceAdd, Nat.reduceSub, Nat.reduceMul, Nat.reduceLT, Nat.reduceLeDiff, Int.reduceLE, Int.reduceLT, Int.reduceAdd, Int.reduceSub, Int.reduceMul, Int.reduceEq, Int.reduceBEq, Int.reduceBNe, Int.reduceNeg, Int.reduceToNat, reduceCtorEq]
  refine ⟨fun e2 => ?_, fun e2 => ?_⟩
  rotate_left
  · refine rvC_use known_c.v ?_
    simp only [go_sem, ↓reduceIte, Nat.reduceEqDiff, Nat.reduceAdd, Nat.reduceSub, Nat.reduceMul, Nat.reduceLT, Nat.reduceLeDiff, Int.reduceLE, Int.reduceLT, Int.reduceAdd, Int.reduceSub, Int.reduceMul, Int.reduceEq, Int.reduceBEq, Int.reduceBNe, Int.reduceNeg, Int.reduceToNat, reduceCtorEq]
    exact fin _
  have htl : t.length < 1000000 := by
    simp only [briefB, Bool.and_eq_true, decide_eq_true_eq] at e2; omega
  have hll : ∀ l ∈ t, l.length < 1000000 := fun l hl => by
    simp only [briefB, Bool.and_eq_true, decide_eq_true_eq, List.all_eq_true] at e2
    have := e2.1 l hl; omega
  refine rvC_use (rbay_c b v hR.app).v ?_
  simp only [go_sem, ↓reduceIte, Nat.reduceEqDiff, Nat.reduceAdd, Nat.reduceSub, Nat.reduceMul, Nat.reduceLT, Nat.reduceLeDiff, Int.reduceLE, Int.reduceLT, Int.reduceAdd, Int.reduceSub, Int.reduceMul, Int.reduceEq, Int.reduceBEq, Int.reduceBNe, Int.reduceNeg, Int.reduceToNat, reduceCtorEq]
  refine ⟨fun eb => ?_, fun eb => ?_⟩
  rotate_left
  · refine rvC_use known_c.v ?_
    simp only [go_sem, ↓reduceIte, Nat.reduceEqDiff, Nat.reduceAdd, Nat.reduceSub, Nat.reduceMul, Nat.reduceLT, Nat.reduceLeDiff, Int.reduceLE, Int.reduceLT, Int.reduceAdd, Int.reduceSub, Int.reduceMul, Int.reduceEq, Int.reduceBEq, Int.reduceBNe, Int.reduceNeg, Int.reduceToNat, reduceCtorEq]
    exact fin _
  refine rvC_use (rplans_c b v t pv hR.app hP.app htl hll).v ?_
  simp only [go_sem, l2, ln, ↓reduceIte, Nat.reduceEqDiff, Nat.reduceAdd, Nat.reduceSub, Nat.reduceMul, Nat.reduceLT, Nat.reduceLeDiff, Int.reduceLE, Int.reduceLT, Int.reduceAdd, Int.reduceSub, Int.reduceMul, Int.reduceEq, Int.reduceBEq, Int.reduceBNe, Int.reduceNeg, Int.reduceToNat, reduceCtorEq]
  refine ⟨fun ep => ?_, fun ep => ?_⟩
  rotate_left
  · refine rvC_use known_c.v ?_
    simp only [go_sem, ↓reduceIte, Nat.reduceEqDiff, Nat.reduceAdd, Nat.reduceSub, Nat.reduceMul, Nat.reduceLT, Nat.reduceLeDiff, Int.reduceLE, Int.reduceLT, Int.reduceAdd, Int.reduceSub, Int.reduceMul, Int.reduceEq, Int.reduceBEq, Int.reduceBNe, Int.reduceNeg, Int.reduceToNat, reduceCtorEq]
    exact fin _
  by_cases hv : 0 ≤ first ∧ first ≤ 100 ∧ wl.length = b.days.length
  rotate_left
  · repeat' first | omega | (refine And.intro ?_ ?_) | (intro _) | (refine rvC_use known_c.v ?_; simp only [go_sem, ↓reduceIte, Nat.reduceEqDiff, Nat.reduceAdd, Nat.reduceSub, Nat.reduceMul, Nat.reduceLT, Nat.reduceLeDiff, Int.reduceLE, Int.reduceLT, Int.reduceAdd, Int.reduceSub, Int.reduceMul, Int.reduceEq, Int.reduceBEq, Int.reduceBNe, Int.reduceNeg, Int.reduceToNat, reduceCtorEq]; exact fin _)
  obtain ⟨v5, v6, v7⟩ := hv
  have bs := bayB_spec eb
  have u5 : ¬ first < 0 := by omega
  have u6 : ¬ 100 < first := by omega
  simp only [go_sem, u5, u6, ↓reduceIte, Nat.reduceEqDiff, Nat.reduceAdd, Nat.reduceSub, Nat.reduceMul, Nat.reduceLT, Nat.reduceLeDiff, Int.reduceLE, Int.reduceLT, Int.reduceAdd, Int.reduceSub, Int.reduceMul, Int.reduceEq, Int.reduceBEq, Int.reduceBNe, Int.reduceNeg, Int.reduceToNat, reduceCtorEq]
  refine ⟨fun _ => ?_, fun e => by omega⟩
  refine rvC_use (percents_c wl wv (Sl.app hW) hwl).v ?_
  cases epc : percB wl with
  | false =>
    simp only [go_sem, ↓reduceIte, Nat.reduceEqDiff, Nat.reduceAdd, Nat.reduceSub, Nat.reduceMul, Nat.reduceLT, Nat.reduceLeDiff, Int.reduceLE, Int.reduceLT, Int.reduceAdd, Int.reduceSub, Int.reduceMul, Int.reduceEq, Int.reduceBEq, Int.reduceBNe, Int.reduceNeg, Int.reduceToNat, reduceCtorEq]
    refine rvC_use known_c.v ?_
    simp only [go_sem, ↓reduceIte, Nat.reduceEqDiff, Nat.reduceAdd, Nat.reduceSub, Nat.reduceMul, Nat.reduceLT, Nat.reduceLeDiff, Int.reduceLE, Int.reduceLT, Int.reduceAdd, Int.reduceSub, Int.reduceMul, Int.reduceEq, Int.reduceBEq, Int.reduceBNe, Int.reduceNeg, Int.reduceToNat, reduceCtorEq]
    exact fin _
  | true =>
  simp only [go_sem, ↓reduceIte, Nat.reduceEqDiff, Nat.reduceAdd, Nat.reduceSub, Nat.reduceMul, Nat.reduceLT, Nat.reduceLeDiff, Int.reduceLE, Int.reduceLT, Int.reduceAdd, Int.reduceSub, Int.reduceMul, Int.reduceEq, Int.reduceBEq, Int.reduceBNe, Int.reduceNeg, Int.reduceToNat, reduceCtorEq]
  have hper : ∀ x ∈ wl, 0 ≤ x ∧ x ≤ 100 := fun x hx => by
    have := List.all_eq_true.1 epc x hx
    simpa [inB] using this
  have hRt := Right_c (w0 := w0) (h := h ++ [some (.row (bayC b v))]) b v t pv hR.app hP.app htl hll
  rw [RightV, if_pos (by rw [eb, ep]; rfl)] at hRt
  refine rvC_use hRt.v ?_
  simp only [go_sem, bne_self_eq_false, ↓reduceIte, Nat.reduceEqDiff, Nat.reduceAdd, Nat.reduceSub, Nat.reduceMul, Nat.reduceLT, Nat.reduceLeDiff, Int.reduceLE, Int.reduceLT, Int.reduceAdd, Int.reduceSub, Int.reduceMul, Int.reduceEq, Int.reduceBEq, Int.reduceBNe, Int.reduceNeg, Int.reduceToNat, reduceCtorEq]
  refine ⟨fun er => ?_, fun er => ?_⟩
  · refine rvC_use known_c.v ?_
    simp only [go_sem, ↓reduceIte, Nat.reduceEqDiff, Nat.reduceAdd, Nat.reduceSub, Nat.reduceMul, Nat.reduceLT, Nat.reduceLeDiff, Int.reduceLE, Int.reduceLT, Int.reduceAdd, Int.reduceSub, Int.reduceMul, Int.reduceEq, Int.reduceBEq, Int.reduceBNe, Int.reduceNeg, Int.reduceToNat, reduceCtorEq]
    exact fin _
  have hfine := fun (n : Nat) (hn : n < b.days.length) => fault_none (right_fine eb ep er hn)
  clear er hRt e2 e1
  have htd : t.length = b.days.length := by simp only [planB, Bool.and_eq_true, beq_iff_eq] at ep; exact ep.1
  have hnn := fun n => choiceB_nn ep n
  obtain ⟨N, eN⟩ : ∃ N, N = b.slots.length := ⟨_, rfl⟩
  obtain ⟨_, sp, s2, s3, _⟩ := hR.slots.use
  obtain ⟨_, dp, d2, d3, _⟩ := hR.days.use
  obtain ⟨_, fp, f2, f3, _⟩ := hR.defs.use
  obtain ⟨_, nq, nx, nrow, _⟩ := hR.nights.use
  simp only [List.length_map] at s2 d2 f2 nx
  refine lp_ind (S := Nat × Heap × AV × Nat × List TruthD) (F := fun s => [(1, pv), (2, .int .i64 first), (3, wv), (4, .ptr (.own h.length 0)), (11, s.2.2.1), (12, .int .i64 s.1)]) (H := fun s => s.2.1) (meas := fun s => N - s.1)
    (Inv := fun s => s.1 ≤ N ∧ HSub h s.2.1 ∧ s.2.1[h.length]? = some (some (.row (bayC b v))) ∧ s.2.2.2.2 = (b.slots.take s.1).map (fun p => beginT p.wear first) ∧
      (s.1 = 0 ∧ s.2.2.1 = .nilS ∧ s.2.2.2.2.flatMap TruthD.c = [] ∨ s.1 ≠ 0 ∧ s.2.2.1 = .sl (.own s.2.2.2.1 0) s.1 3 false ∧ s.2.1[s.2.2.2.1]? = some (some (.row (s.2.2.2.2.flatMap TruthD.c))) ∧ (s.2.2.2.2.flatMap TruthD.c).length = s.1 * 3) ∧ (s.1 ≠ 0 → h.length < s.2.2.2.1))
    (0, _, .nilS, 0, []) ⟨Nat.zero_le _, fin _, by rw [List.getElem?_append_right (Nat.le_refl _), Nat.sub_self]; rfl, rfl, .inl ⟨rfl, rfl, rfl⟩, fun e => absurd rfl e⟩ rfl rfl ?_
  rintro ⟨j, H, ov, io, ts⟩ ⟨hj, hsH, hbH, hts, hov, hio⟩ ih
  simp only at hj hsH hbH hts hov hio ih
  refine lp_step hmix L5_0_g [1, 2, 3, 4, 11, 12] L5_0.eq_1 ?_
  by_cases hjn : j < N
  · have m1 : (j : Int) < b.slots.length := by omega
    have hjs : j < b.slots.length := by omega
    have a1 := s2 j hjs
    have a2 : rdn w0 h (sp.add (j * 7)) 7 = some b.slots[j].c := s3 j _ (by simp [hjs])
    have a30 : rdn w0 h ((sp.add (j * 7)).add 1) 6 = some (WearD.c b.slots[j].wear) := (rdn_get a2).2 1 6 (by omega)
    have a3 : ∀ L, rdn w0 (H ++ L) ((sp.add (j * 7)).add 1) 6 = some (WearD.c b.slots[j].wear) := fun L => rdn_app (hsH.rdn a30)
    have a3' := a3 []
    rw [List.append_nil] at a3'
    have hwj := (bs.2.2.2.2.2.2.2.2.2.2.2.1 _ (List.getElem_mem hjs)).2.2
    simp only [go_sem, hbH, l1, m1, a1, a3', ↓reduceIte, Nat.reduceEqDiff, Nat.reduceAdd, Nat.reduceSub, Nat.reduceMul, Nat.reduceLT, Nat.reduceLeDiff, Int.reduceLE, Int.reduceLT, Int.reduceAdd, Int.reduceSub, Int.reduceMul, Int.reduceEq, Int.reduceBEq, Int.reduceBNe, Int.reduceNeg, Int.reduceToNat, reduceCtorEq]
    refine rvC_use (begin_t b.slots[j].wear first hwj v5 v6).v ?_
    obtain ⟨z, ez⟩ : ∃ z, z = beginT b.slots[j].wear first := ⟨_, rfl⟩
    rw [← ez]
    have hov' : j = 0 ∧ ov = .nilS ∧ ts.flatMap TruthD.c = [] ∨ j ≠ 0 ∧ ov = .sl (.own io 0) j 3 false ∧ (H ++ [some (Blk.row z.c)])[io]? = some (some (.row (ts.flatMap TruthD.c))) ∧ (ts.flatMap TruthD.c).length = j * 3 := by
      rcases hov with h1 | ⟨h1, h2, h3, h4⟩
      · exact .inl h1
      · exact .inr ⟨h1, h2, getElem?_app_left h3, h4⟩
    obtain ⟨G, eapp, hGl, hG2, hGo⟩ := app_grow (w0 := w0) (H := H ++ [some (Blk.row z.c)]) (es := 3) (b := 24) (n := j) (io := io) (k := H.length) (ov := ov) (vs := ts.flatMap TruthD.c) (x := z.c) (f := true) hov' (by simp) rfl rfl (by omega) (by omega)
    simp only [TruthD.c] at eapp
    simp only [go_sem, eapp, ↓reduceIte, Nat.reduceEqDiff, Nat.reduceAdd, Nat.reduceSub, Nat.reduceMul, Nat.reduceLT, Nat.reduceLeDiff, Int.reduceLE, Int.reduceLT, Int.reduceAdd, Int.reduceSub, Int.reduceMul, Int.reduceEq, Int.reduceBEq, Int.reduceBNe, Int.reduceNeg, Int.reduceToNat, reduceCtorEq]
    refine ⟨(by unfold I64; omega), ?_⟩
    have hlen : (H ++ [some (Blk.row z.c)]).length = H.length + 1 := by simp
    rw [hlen] at hG2 hGl
    have hsG : HSub h G := ⟨by have := hsH.1; omega, fun i c e => hGo i c (fun hj0 => by have := hio hj0; have := get_lt e; omega) (getElem?_app_left (hsH.2 i c e))⟩
    have := ih (j + 1, G, .sl (.own (H.length + 1) 0) (j + 1) 3 false, H.length + 1, ts ++ [z]) ⟨hjn, hsG, hGo _ _ (fun hj0 => by have := hio hj0; omega) (getElem?_app_left hbH), by
        simp only [hts]; rw [take_succ' hjs, List.map_append, ez]; rfl, .inr ⟨by simp, rfl, by simp only [List.flatMap_append, List.flatMap_cons, List.flatMap_nil, List.append_nil]; exact hG2, by
        rw [flat_len (f := TruthD.c) (n := 3) (fun _ => rfl), hts]; simp; omega⟩, fun _ => by have := hsH.1; simp only; omega⟩ (by simp only; omega)
    simpa using this
  · have hjN : j = N := by omega
    subst hjN
    have m1 : ¬ (j : Int) < b.slots.length := by omega
    have hN0 : j ≠ 0 := by omega
    have hio := hio hN0
    obtain ⟨h2, h3, h4⟩ : ov = .sl (.own io 0) j 3 false ∧ H[io]? = some (some (.row (ts.flatMap TruthD.c))) ∧ (ts.flatMap TruthD.c).length = j * 3 := by
      rcases hov with h1 | ⟨_, h1⟩
      · exact absurd h1.1 hN0
      · exact h1
    subst h2
    rw [List.take_of_length_le (by omega)] at hts
    simp only [go_sem, hbH, l1, l3, m1, reps_1, ↓reduceIte, Nat.reduceEqDiff, Nat.reduceAdd, Nat.reduceSub, Nat.reduceMul, Nat.reduceLT, Nat.reduceLeDiff, Int.reduceLE, Int.reduceLT, Int.reduceAdd, Int.reduceSub, Int.reduceMul, Int.reduceEq, Int.reduceBEq, Int.reduceBNe, Int.reduceNeg, Int.reduceToNat, reduceCtorEq]
    refine ⟨by omega, ?_⟩
    obtain ⟨D, eD⟩ : ∃ D, D = b.defs.length := ⟨_, rfl⟩
    obtain ⟨fl, efl⟩ : ∃ fl, fl = (D == D) := ⟨_, rfl⟩
    obtain ⟨ir, eir⟩ : ∃ ir, ir = H.length := ⟨_, rfl⟩
    have htsl : ts.length = j := by rw [hts]; simp; omega
    have hlio := get_lt h3
    have I0 : HoldI h b v (H ++ [some (.row (List.replicate D (.bool false)))]) io ir (ts.flatMap TruthD.c) ((List.replicate D false).map .bool) :=
      ⟨hsH.app, getElem?_app_left hbH, getElem?_app_left h3, by rw [eir]; simp, ⟨hio, by have := hsH.1; have := get_lt hbH; omega, by omega⟩⟩
    have hq0 : ∀ s (hs : s < ts.length), withinT ts[s] (afterD b s ((putR b t 0).getD s 0) ((0 : Nat) - 1 : Int)) = true := fun s hs => by
      have e1 : (putR b t 0).getD s 0 = -1 := by rw [getD_at (by rw [putR_len]; omega)]; simp [putR]
      have e2 : ts[s] = beginT b.slots[s].wear first := by simp [hts]
      have e3 : beginW b s (-1) = b.slots[s].wear := by simp [beginW, show s < b.slots.length by omega]
      rw [e1, show (((0 : Nat) : Int) - 1) = -1 by omega, after_self, e2, e3]
      exact beginT_in (bs.2.2.2.2.2.2.2.2.2.2.2.1 _ (List.getElem_mem _)).2.2 v5 v6
    rw [← eD, ← efl, ← eir]
    clear ih hov hbH hsH h3 h4 hts
    refine lp_ind (S := Nat × Heap × List TruthD × List Bool) (F := fun s => [(1, pv), (3, wv), (4, .ptr (.own h.length 0)), (11, .sl (.own io 0) j 3 false), (13, .sl (.own ir 0) D 1 fl), (14, .int .i64 s.1)]) (H := fun s => s.2.1) (meas := fun s => b.days.length - s.1)
      (Inv := fun s => s.1 ≤ b.days.length ∧ HoldI h b v s.2.1 io ir (s.2.2.1.flatMap TruthD.c) (s.2.2.2.map .bool) ∧ s.2.2.1.length = j ∧ s.2.2.2.length = D ∧
        (∀ x (hx : x < s.2.2.1.length), withinT s.2.2.1[x] (afterD b x ((putR b t s.1).getD x 0) ((s.1 : Int) - 1)) = true) ∧
        (∀ (i : Nat) d0, b.defs[i]? = some d0 → ∀ e, e < s.1 → ((t.getD e []).any fun y => y == d0.slot) = true → d0.nights.low ≤ e → (e : Int) ≤ d0.nights.high → s.2.2.2[i]? = some true))
      (0, _, ts, List.replicate D false) ⟨Nat.zero_le _, I0, htsl, by simp, hq0, fun i d0 _ e he => by simp at he⟩ rfl rfl ?_
    rintro ⟨d, H, ts, rs⟩ ⟨hd, I, htl2, hrl, hin, hrep⟩ ih
    simp only at hd I htl2 hrl hin hrep ih
    refine lp_step hmix L5_5_g [1, 3, 4, 11, 13, 14] L5_5.eq_1 ?_
    by_cases hdn : d < b.days.length
    · have m1 : (d : Int) < b.days.length := by omega
      have g1 := I.b1
      simp only [go_sem, g1, l2, m1, ↓reduceIte, Nat.reduceEqDiff, Nat.reduceAdd, Nat.reduceSub, Nat.reduceMul, Nat.reduceLT, Nat.reduceLeDiff, Int.reduceLE, Int.reduceLT, Int.reduceAdd, Int.reduceSub, Int.reduceMul, Int.reduceEq, Int.reduceBEq, Int.reduceBNe, Int.reduceNeg, Int.reduceToNat, reduceCtorEq]
      obtain ⟨P, eP⟩ : ∃ P, P = putR b t d := ⟨_, rfl⟩
      have hPl : P.length = b.slots.length := by rw [eP, putR_len]
      have hPb : ∀ x ∈ P, -1 ≤ x ∧ x < (d : Int) := by rw [eP]; exact putR_bd d
      have hf := hfine d hdn
      rw [← eP] at hf hin
      obtain ⟨hf1, hf2, hf3, hf4⟩ := hf
      have hu : dayB b.days[d] = true := bs.2.2.2.2.2.2.2.2.2.2.2.2.1 _ (List.getElem_mem _)
      have hwd := hper wl[d] (List.getElem_mem _)
      have i1 := d2 d hdn
      have i20 : rdn w0 h (dp.add (d * 7)) 7 = some b.days[d].c := d3 d _ (by simp [hdn])
      have i3 := ix d (by omega)
      have i40 : rd w0 h (q.add d) = some (.int .i64 wl[d]) := by simpa using row d (by omega) []
      refine lp_ind (S := Nat × Heap × List TruthD) (F := fun s => [(1, pv), (3, wv), (4, .ptr (.own h.length 0)), (11, .sl (.own io 0) j 3 false), (13, .sl (.own ir 0) D 1 fl), (14, .int .i64 d), (15, .int .i64 s.1)]) (H := fun s => s.2.1) (meas := fun s => j - s.1)
        (Inv := fun s => s.1 ≤ j ∧ HoldI h b v s.2.1 io ir (s.2.2.flatMap TruthD.c) (rs.map .bool) ∧ s.2.2.length = j ∧
          (∀ x (hx : x < s.2.2.length), withinT s.2.2[x] (afterD b x (P.getD x 0) (if x < s.1 then d else (d : Int) - 1)) = true))
        (0, H, ts) ⟨Nat.zero_le _, I, htl2, fun x hx => by simpa using hin x hx⟩ rfl rfl ?_
      rintro ⟨s, H, ts⟩ ⟨hs, I, htl2, hin⟩ ih2
      simp only at hs I htl2 hin ih2
      have g1 := I.b1
      have g2 := I.b2
      have i2 : ∀ L, rdn w0 (H ++ L) (dp.add (d * 7)) 7 = some b.days[d].c := fun L => rdn_app (I.hs.rdn i20)
      have i4 : ∀ L, rd w0 (H ++ L) (q.add d) = some (.int .i64 wl[d]) := fun L => rd_app (I.hs.rd i40)
      have i2' := i2 []
      have i4' := i4 []
      rw [List.append_nil] at i2' i4'
      have hRH := hR.sub I.hs
      refine lp_step hmix L5_1_g [1, 3, 4, 11, 13, 14, 15] L5_1.eq_1 ?_
      by_cases hsn : s < j
      · have m2 : (s : Int) < j := by omega
        have hsl : s < b.slots.length := by omega
        have hst : s < ts.length := by omega
        have hlen3 := flat_len (f := TruthD.c) (n := 3) (fun _ => rfl) ts
        have hget := flat_get (f := TruthD.c) (n := 3) (fun _ => rfl) ts s hst
        have hbd : s * 3 + 3 ≤ (ts.flatMap TruthD.c).length := by rw [hlen3]; omega
        simp only [go_sem, m2, g1, ↓reduceIte, Nat.reduceEqDiff, Nat.reduceAdd, Nat.reduceSub, Nat.reduceMul, Nat.reduceLT, Nat.reduceLeDiff, Int.reduceLE, Int.reduceLT, Int.reduceAdd, Int.reduceSub, Int.reduceMul, Int.reduceEq, Int.reduceBEq, Int.reduceBNe, Int.reduceNeg, Int.reduceToNat, reduceCtorEq]
        refine rdC_q (rkindOf_c b v s hRH eb hsl).v ?_
        simp only [go_sem, g1, g2, hbd, hget, i1, i2', i3, i4', ↓reduceIte, Nat.reduceEqDiff, Nat.reduceAdd, Nat.reduceSub, Nat.reduceMul, Nat.reduceLT, Nat.reduceLeDiff, Int.reduceLE, Int.reduceLT, Int.reduceAdd, Int.reduceSub, Int.reduceMul, Int.reduceEq, Int.reduceBEq, Int.reduceBNe, Int.reduceNeg, Int.reduceToNat, reduceCtorEq]
        have hsx := hin s hst
        have hPs : P.getD s 0 = P[s]'(by omega) := getD_at (by omega)
        have hPb' := hPb (P[s]'(by omega)) (List.getElem_mem _)
        rw [if_neg (by omega), hPs] at hsx
        have hok := withinT_ok (after_ok eb hsl _ _) hsx
        refine ⟨hsn, ?_⟩
        refine rdC_q (grown_c (kindOf b s) ts[s] b.days[d] wl[d] (kindOf_ok eb hsl) hok hu hwd.1 hwd.2).v ?_
        obtain ⟨z, ez⟩ : ∃ z, z = grownT (kindOf b s) ts[s] b.days[d] wl[d] := ⟨_, rfl⟩
        have hz : withinT z (afterD b s P[s] d) = true := by
          rw [ez, after_succ hPb'.1 hPb'.2 hdn]
          exact grownT_in (kindOf_ok eb hsl) (after_ok eb hsl _ _) hu hwd.1 hwd.2 hsx
        rw [← ez]
        have hst3 := flat_set (f := TruthD.c) (n := 3) (fun _ => rfl) z ts s hst
        obtain ⟨H2, eH2⟩ : ∃ H2, H2 = H.set io (some (.row ((ts.set s z).flatMap TruthD.c))) := ⟨_, rfl⟩
        have I2 : HoldI h b v H2 io ir ((ts.set s z).flatMap TruthD.c) (rs.map .bool) := eH2 ▸ I.setO _
        have g3 := I2.b1
        have g4 := I2.b2
        have hlen4 := flat_len (f := TruthD.c) (n := 3) (fun _ => rfl) (ts.set s z)
        have hget4 := flat_get (f := TruthD.c) (n := 3) (fun _ => rfl) (ts.set s z) s (by simpa using hst)
        rw [List.getElem_set_self] at hget4
        have hbd4 : s * 3 + 3 ≤ ((ts.set s z).flatMap TruthD.c).length := by rw [hlen4]; simp; omega
        simp only [TruthD.c, List.cons_append, List.nil_append] at hst3
        have eH2' := eH2.symm
        have hRH2 := hR.sub I2.hs
        simp only [go_sem, g2, hbd, hst3, eH2', g3, g4, hbd4, hget4, hsn, ↓reduceIte, Nat.reduceEqDiff, Nat.reduceAdd, Nat.reduceSub, Nat.reduceMul, Nat.reduceLT, Nat.reduceLeDiff, Int.reduceLE, Int.reduceLT, Int.reduceAdd, Int.reduceSub, Int.reduceMul, Int.reduceEq, Int.reduceBEq, Int.reduceBNe, Int.reduceNeg, Int.reduceToNat, reduceCtorEq]
        refine rdC_q (rkindOf_c b v s hRH2 eb hsl).v ?_
        simp only [go_sem, g4, hbd4, hget4, hsn, ↓reduceIte, Nat.reduceEqDiff, Nat.reduceAdd, Nat.reduceSub, Nat.reduceMul, Nat.reduceLT, Nat.reduceLeDiff, Int.reduceLE, Int.reduceLT, Int.reduceAdd, Int.reduceSub, Int.reduceMul, Int.reduceEq, Int.reduceBEq, Int.reduceBNe, Int.reduceNeg, Int.reduceToNat, reduceCtorEq]
        refine rdC_q (beyond_c (kindOf b s) z).v ?_
        have hfs := hf1 s hsl
        rw [hPs] at hfs
        rw [not_beyond hz hfs]
        simp only [go_sem, ↓reduceIte, Nat.reduceEqDiff, Nat.reduceAdd, Nat.reduceSub, Nat.reduceMul, Nat.reduceLT, Nat.reduceLeDiff, Int.reduceLE, Int.reduceLT, Int.reduceAdd, Int.reduceSub, Int.reduceMul, Int.reduceEq, Int.reduceBEq, Int.reduceBNe, Int.reduceNeg, Int.reduceToNat, reduceCtorEq]
        have := ih2 (s + 1, H2, ts.set s z) ⟨by simp only; omega, I2, by simpa using htl2, fun x hx => (by
          simp only at hx ⊢
          have hxl : x < ts.length := by simpa using hx
          by_cases e : x = s
          · subst e
            rw [List.getElem_set_self, if_pos (by omega), hPs]; exact hz
          · rw [List.getElem_set_ne (fun e2 => e e2.symm)]
            have := hin x hxl
            by_cases e2 : x < s
            · rw [if_pos e2] at this; rw [if_pos (by omega)]; exact this
            · rw [if_neg e2] at this; rw [if_neg (by omega)]; exact this)⟩ (by simp only; omega)
        exact ⟨(by unfold I64; omega), by simpa using this⟩
      · have hsj : s = j := by omega
        have hin1 : ∀ x (hx : x < ts.length), withinT ts[x] (afterD b x (P.getD x 0) d) = true := fun x hx => by
          have := hin x hx
          rwa [if_pos (by omega)] at this
        have hnt : d < t.length := by omega
        obtain ⟨pp, xx, j1, j2, j3⟩ := hP.list hnt
        have j2' : ∀ L, rd w0 (H ++ L) pp = some xx := fun L => rd_app (I.hs.rd (by simpa using j2 []))
        have j2'' := j2' []
        rw [List.append_nil] at j2''
        have j4 := (SlI.use j3).1
        have gt := getD_at (d := ([] : List Int)) hnt
        have hnl : d < b.nights.length := by omega
        have gn := getD_at (d := false) hnl
        have nx2 := nx d hnl
        have nr0 : rd w0 h (nq.add (d * 1)) = some (.bool b.nights[d]) := by
          have := rd_get (nrow d [.bool b.nights[d]] (by simp [hnl])) (o := 0) (x := .bool b.nights[d]) rfl
          rwa [show (nq.add (d * 1)).add 0 = nq.add (d * 1) by rw [Pl.add_add]; rfl] at this
        have nr2 := I.hs.rd nr0
        have m2 : ¬ (s : Int) < j := by omega
        rw [gt] at hf2 hf3
        rw [gn] at hf2
        have m3 : ¬ b.most < (t[d].length : Int) := by omega
        simp only [go_sem, m2, g1, j1, j2'', j4, m3, ↓reduceIte, Nat.reduceEqDiff, Nat.reduceAdd, Nat.reduceSub, Nat.reduceMul, Nat.reduceLT, Nat.reduceLeDiff, Int.reduceLE, Int.reduceLT, Int.reduceAdd, Int.reduceSub, Int.reduceMul, Int.reduceEq, Int.reduceBEq, Int.reduceBNe, Int.reduceNeg, Int.reduceToNat, reduceCtorEq]
        have hskip : ∀ {A B : Prop}, B → (¬ (0 : Int) < t[d].length → B) := fun b _ => b
        obtain ⟨l, el⟩ : ∃ l, l = t[d] := ⟨_, rfl⟩
        have hnl2 := hnn d
        rw [gt] at hnl2
        obtain ⟨_, lq, lix, lrow⟩ := SlI.use j3
        rw [← el] at lix lrow j4 hf2 hf3 hnl2 ⊢
        have hcl := hll _ (List.getElem_mem hnt)
        rw [← el] at hcl
        obtain ⟨c, ec⟩ : ∃ c, c = l.map Int.toNat := ⟨_, rfl⟩
        have hcl2 : c.length = l.length := by rw [ec, List.length_map]
        have hcs : ∀ i (hi : i < c.length), ∃ hi' : i < l.length, l[i] = (c[i] : Int) ∧ c[i] < b.slots.length := fun i hi => by
          have hi' : i < l.length := by omega
          have := hnl2 l[i] (List.getElem_mem hi')
          refine ⟨hi', ?_, ?_⟩ <;> simp only [ec, List.getElem_map] <;> omega
        have key : lp Try.prog w0 none 234 (List.length h) (resK w0 [RV.t 8] fun v' h' => HSub h h' ∧ v' = AV.bool true) L5_3 [It.inBlk 6, It.code ((SC.reg [MIx.op (some 19) none (MOp.mov (Opd.k (AV.int IntKind.i64 0)))]).seq (SC.blk 10 (SC.loop [1, 3, 4, 11, 13, 14, 19] L5_4))), It.inBlk 3,
          It.code (SC.reg [MIx.op (some 100) none (MOp.mov (Opd.t 14)), MIx.op (some 101) none (MOp.bin BinOp.add (Opd.t 100) (Opd.k (AV.int IntKind.i64 1))), MIx.op (some 14) none (MOp.mov (Opd.t 101))]), It.inLoop [1, 3, 4, 11, 13, 14] L5_5, It.inBlk 2,
          It.code ((SC.reg [MIx.call (some 233) none (Opd.k (AV.fn (Fn.func 17) [] [])) [], MIx.op (some 8) none (MOp.mov (Opd.t 233))]).seq SC.ret)]
          [(1, pv), (3, wv), (4, .ptr (.own h.length 0)), (11, .sl (.own io 0) j 3 false), (13, .sl (.own ir 0) D 1 fl), (14, .int .i64 d), (16, .int .i64 0)] H := by
          have hzero : ∀ x, withinT ⟨0, 0, 0⟩ (afterD b x (d : Int) d) = true := fun x => by
            rw [after_self, beginW, if_neg (by omega)]; rfl
          refine lp_ind (S := Nat × Heap × List TruthD × List Bool) (F := fun s => [(1, pv), (3, wv), (4, .ptr (.own h.length 0)), (11, .sl (.own io 0) j 3 false), (13, .sl (.own ir 0) D 1 fl), (14, .int .i64 d), (16, .int .i64 s.1)]) (H := fun s => s.2.1) (meas := fun s => l.length - s.1)
            (Inv := fun s => s.1 ≤ l.length ∧ HoldI h b v s.2.1 io ir (s.2.2.1.flatMap TruthD.c) (s.2.2.2.map .bool) ∧ s.2.2.1.length = j ∧ s.2.2.2.length = D ∧
              (∀ x (hx : x < s.2.2.1.length), withinT s.2.2.1[x] (afterD b x ((putD d P (c.take s.1)).getD x 0) d) = true) ∧
              (∀ (i : Nat) d0, b.defs[i]? = some d0 → ∀ e : Nat, ((e < d ∧ ((t.getD e []).any fun y => y == d0.slot) = true) ∨ (e = d ∧ ∃ k', k' < s.1 ∧ l[k']? = some d0.slot)) → d0.nights.low ≤ e → (e : Int) ≤ d0.nights.high → s.2.2.2[i]? = some true))
            (0, H, ts, rs) ⟨Nat.zero_le _, I, htl2, hrl, by simpa [putD] using hin1, fun i d0 hi e he => by
              rcases he with ⟨h1, h2⟩ | ⟨_, k', h1, _⟩
              · exact hrep i d0 hi e h1 h2
              · simp at h1⟩ rfl rfl ?_
          rintro ⟨k, H, ts, rs⟩ ⟨hk, I, htl2, hrl, hin, hrep⟩ ih3
          simp only at hk I htl2 hrl hin hrep ih3
          have g1 := I.b1
          have g2 := I.b2
          have j2k : ∀ L, rd w0 (H ++ L) pp = some xx := fun L => rd_app (I.hs.rd (by simpa using j2 []))
          have j2k' := j2k []
          rw [List.append_nil] at j2k'
          refine lp_step hmix L5_3_g [1, 3, 4, 11, 13, 14, 16] L5_3.eq_1 ?_
          by_cases hkl : k < l.length
          · have m4 : (k : Int) < l.length := by omega
            have m5 := lix k hkl
            obtain ⟨_, m6, m7⟩ := hcs k (by omega)
            have m80 : rd w0 h (lq.add k) = some (.int .i64 c[k]) := by rw [← m6]; simpa using lrow k hkl []
            have m8 := I.hs.rd m80
            have hcj : c[k] < j := by omega
            have hct : c[k] < ts.length := by omega
            have hlen3 := flat_len (f := TruthD.c) (n := 3) (fun _ => rfl) ts
            have hbd : c[k] * 3 + 3 ≤ (ts.flatMap TruthD.c).length := by rw [hlen3]; omega
            have hst3 := flat_set (f := TruthD.c) (n := 3) (fun _ => rfl) ⟨0, 0, 0⟩ ts c[k] hct
            simp only [TruthD.c, List.cons_append, List.nil_append] at hst3
            obtain ⟨ts2, ets2⟩ : ∃ ts2, ts2 = ts.set c[k] ⟨0, 0, 0⟩ := ⟨_, rfl⟩
            rw [← ets2] at hst3
            obtain ⟨H2, eH2⟩ : ∃ H2, H2 = H.set io (some (.row (ts2.flatMap TruthD.c))) := ⟨_, rfl⟩
            have I2 : HoldI h b v H2 io ir (ts2.flatMap TruthD.c) (rs.map .bool) := eH2 ▸ I.setO _
            have eH2' := eH2.symm
            have hts2 : ts2.length = j := by rw [ets2]; simpa using htl2
            have hin2 : ∀ x (hx : x < ts2.length), withinT ts2[x] (afterD b x ((putD d P (c.take (k + 1))).getD x 0) d) = true := fun x hx => by
              have hxl : x < ts.length := by omega
              have hpl : (putD d P (c.take k)).length = b.slots.length := by rw [putD_len, hPl]
              rw [take_succ' (show k < c.length by omega), putD_snoc, getD_at (by rw [List.length_set]; omega)]
              simp only [ets2]
              by_cases e : c[k] = x
              · rw [List.getElem_set, List.getElem_set, if_pos e, if_pos e]; exact hzero _
              · rw [List.getElem_set_ne e, List.getElem_set_ne e]
                have := hin x hxl
                rwa [getD_at (by omega)] at this
            simp only [go_sem, m4, j1, j2k', j4, m5, m8, hcj, g2, hbd, hst3, eH2', ↓reduceIte, Nat.reduceEqDiff, Nat.reduceAdd, Nat.reduceSub, Nat.reduceMul, Nat.reduceLT, Nat.reduceLeDiff, Int.reduceLE, Int.reduceLT, Int.reduceAdd, Int.reduceSub, Int.reduceMul, Int.reduceEq, Int.reduceBEq, Int.reduceBNe, Int.reduceNeg, Int.reduceToNat, reduceCtorEq]
            refine lp_ind (S := Nat × Heap × List Bool) (F := fun s => [(1, pv), (3, wv), (4, .ptr (.own h.length 0)), (11, .sl (.own io 0) j 3 false), (13, .sl (.own ir 0) D 1 fl), (14, .int .i64 d), (16, .int .i64 k), (17, .int .i64 s.1)]) (H := fun s => s.2.1) (meas := fun s => D - s.1)
              (Inv := fun s => s.1 ≤ D ∧ HoldI h b v s.2.1 io ir (ts2.flatMap TruthD.c) (s.2.2.map .bool) ∧ s.2.2.length = D ∧
                (∀ (i : Nat) d0, b.defs[i]? = some d0 → ∀ e : Nat, (((e < d ∧ ((t.getD e []).any fun y => y == d0.slot) = true) ∨ (e = d ∧ ∃ k', k' < k ∧ l[k']? = some d0.slot)) ∨ (i < s.1 ∧ e = d ∧ l[k]? = some d0.slot)) → d0.nights.low ≤ e → (e : Int) ≤ d0.nights.high → s.2.2[i]? = some true))
              (0, H2, rs) ⟨Nat.zero_le _, I2, hrl, fun i d0 hi e he => by
                rcases he with h1 | ⟨h1, _⟩
                · exact hrep i d0 hi e h1
                · simp at h1⟩ rfl rfl ?_
            rintro ⟨i, H, rs⟩ ⟨hi, I, hrl, hrep2⟩ ih4
            simp only at hi I hrl hrep2 ih4
            have g1 := I.b1
            have g3 := I.b3
            have j2i : ∀ L, rd w0 (H ++ L) pp = some xx := fun L => rd_app (I.hs.rd (by simpa using j2 []))
            have j2i' := j2i []
            rw [List.append_nil] at j2i'
            have m8i : ∀ L, rd w0 (H ++ L) (lq.add k) = some (.int .i64 l[k]) := fun L => rd_app (I.hs.rd (by simpa using lrow k hkl []))
            refine lp_step hmix L5_2_g [1, 3, 4, 11, 13, 14, 16, 17] L5_2.eq_1 ?_
            by_cases hil : i < D
            · have hid : i < b.defs.length := by omega
              have m9 : (i : Int) < b.defs.length := by omega
              have q1 := f2 i hid
              obtain ⟨d0, ed0⟩ : ∃ d0, d0 = b.defs[i] := ⟨_, rfl⟩
              have q20 : rdn w0 h (fp.add (i * 3)) 3 = some d0.c := f3 i _ (by simp [hid, ed0])
              have q2 := I.hs.rdn q20
              have hd0 : b.defs[i]? = some d0 := by rw [List.getElem?_eq_getElem hid, ed0]
              have IA := I.app [some (.row d0.c)]
              have g3A := IA.b3
              have g1A := IA.b1
              simp only [DefD.c] at g3A g1A
              simp only [go_sem, g1, l3, m9, q1, q2, j1, j2i, j4, m5, m8i, ↓reduceIte, Nat.reduceEqDiff, Nat.reduceAdd, Nat.reduceSub, Nat.reduceMul, Nat.reduceLT, Nat.reduceLeDiff, Int.reduceLE, Int.reduceLT, Int.reduceAdd, Int.reduceSub, Int.reduceMul, Int.reduceEq, Int.reduceBEq, Int.reduceBNe, Int.reduceNeg, Int.reduceToNat, reduceCtorEq]
              have hkk : l[k]? = some l[k] := List.getElem?_eq_getElem hkl
              have nxt : ∀ (rs' : List Bool) (H' : Heap), HoldI h b v H' io ir (ts2.flatMap TruthD.c) (rs'.map .bool) → rs'.length = D → (∀ x : Nat, rs[x]? = some true → rs'[x]? = some true) → (d0.slot = l[k] → d0.nights.low ≤ d → (d : Int) ≤ d0.nights.high → rs'[i]? = some true) → _ :=
                fun rs' H' I' hl' hmono hnew => ih4 (i + 1, H', rs') ⟨hil, I', hl', fun i' d1 hi' e he h1 h2 => by
                  rcases he with he | ⟨he1, he2, he3⟩
                  · exact hmono _ (hrep2 i' d1 hi' e (.inl he) h1 h2)
                  · by_cases ei : i' = i
                    · subst ei
                      rw [hd0] at hi'; cases hi'
                      rw [hkk] at he3
                      subst he2
                      exact hnew (Option.some.inj he3).symm h1 h2
                    · exact hmono _ (hrep2 i' d1 hi' e (.inr ⟨by omega, he2, he3⟩) h1 h2)⟩ (by simp only; omega)
              refine ⟨fun es => ?_, fun es => ?_⟩
              · refine rdC_q (inside_c _ d0.nights).v ?_
                simp only [go_sem, ↓reduceIte, Nat.reduceEqDiff, Nat.reduceAdd, Nat.reduceSub, Nat.reduceMul, Nat.reduceLT, Nat.reduceLeDiff, Int.reduceLE, Int.reduceLT, Int.reduceAdd, Int.reduceSub, Int.reduceMul, Int.reduceEq, Int.reduceBEq, Int.reduceBNe, Int.reduceNeg, Int.reduceToNat, reduceCtorEq]
                refine ⟨fun en => ?_, fun en => ?_⟩
                · have hsp : (rs.map AV.bool).take i ++ .bool true :: (rs.map AV.bool).drop (i + 1) = (rs.set i true).map .bool := by
                    rw [splice_r (by rw [List.length_map]; omega), List.map_set]
                  have := nxt (rs.set i true) _ (IA.setR ((rs.set i true).map .bool)) (by simpa using hrl) (fun x hx => by
                    by_cases e : i = x
                    · subst e; rw [List.getElem?_set_self (by omega)]
                    · rw [List.getElem?_set_ne e]; exact hx) (fun _ _ _ => List.getElem?_set_self (by omega))
                  simp only [go_sem, g3A, hil, Nat.mul_one, List.length_map, hrl, hsp, ↓reduceIte, Nat.reduceEqDiff, Nat.reduceAdd, Nat.reduceSub, Nat.reduceMul, Nat.reduceLT, Nat.reduceLeDiff, Int.reduceLE, Int.reduceLT, Int.reduceAdd, Int.reduceSub, Int.reduceMul, Int.reduceEq, Int.reduceBEq, Int.reduceBNe, Int.reduceNeg, Int.reduceToNat, reduceCtorEq]
                  exact ⟨by omega, (by unfold I64; omega), by simpa [DefD.c] using this⟩
                · have := nxt rs _ IA hrl (fun _ e => e) (fun _ h1 h2 => by simp [inB] at en; omega)
                  exact ⟨(by unfold I64; omega), by simpa [DefD.c] using this⟩
              · have := nxt rs _ IA hrl (fun _ e => e) (fun h1 _ _ => absurd h1 es)
                exact ⟨(by unfold I64; omega), by simpa [DefD.c] using this⟩
            · have m9 : ¬ (i : Int) < b.defs.length := by omega
              simp only [go_sem, g1, l3, m9, ↓reduceIte, Nat.reduceEqDiff, Nat.reduceAdd, Nat.reduceSub, Nat.reduceMul, Nat.reduceLT, Nat.reduceLeDiff, Int.reduceLE, Int.reduceLT, Int.reduceAdd, Int.reduceSub, Int.reduceMul, Int.reduceEq, Int.reduceBEq, Int.reduceBNe, Int.reduceNeg, Int.reduceToNat, reduceCtorEq]
              have := ih3 (k + 1, H, ts2, rs) ⟨hkl, I, hts2, hrl, hin2, fun i' d1 hi' e he h1 h2 => hrep2 i' d1 hi' e (by
                rcases he with he | ⟨he, k', hk1, hk2⟩
                · exact .inl (.inl he)
                · by_cases ek : k' = k
                  · subst ek
                    exact .inr ⟨by have := get_some_lt hi'; omega, he, hk2⟩
                  · exact .inl (.inr ⟨he, k', by omega, hk2⟩)) h1 h2⟩ (by simp only; omega)
              exact ⟨(by unfold I64; omega), by simpa using this⟩
          · have hkk : k = l.length := by omega
            have m4 : ¬ (k : Int) < l.length := by omega
            simp only [go_sem, m4, j1, j2k', j4, ↓reduceIte, Nat.reduceEqDiff, Nat.reduceAdd, Nat.reduceSub, Nat.reduceMul, Nat.reduceLT, Nat.reduceLeDiff, Int.reduceLE, Int.reduceLT, Int.reduceAdd, Int.reduceSub, Int.reduceMul, Int.reduceEq, Int.reduceBEq, Int.reduceBNe, Int.reduceNeg, Int.reduceToNat, reduceCtorEq]
            have g3 := I.b3
            have hrep3 : ∀ (i : Nat) d0, b.defs[i]? = some d0 → ∀ e : Nat, e < d + 1 → ((t.getD e []).any fun y => y == d0.slot) = true → d0.nights.low ≤ e → (e : Int) ≤ d0.nights.high → rs[i]? = some true := fun i d0 hi e he hy h1 h2 => by
              refine hrep i d0 hi e ?_ h1 h2
              by_cases ee : e = d
              · subst ee
                rw [gt, ← el] at hy
                obtain ⟨y, hy1, hy2⟩ := List.any_eq_true.1 hy
                obtain ⟨k', hk1, rfl⟩ := List.getElem_of_mem hy1
                exact .inr ⟨rfl, k', by omega, by rw [List.getElem?_eq_getElem hk1]; simpa using hy2⟩
              · exact .inl ⟨by omega, hy⟩
            refine lp_all (fun i => [(1, pv), (3, wv), (4, .ptr (.own h.length 0)), (11, .sl (.own io 0) j 3 false), (13, .sl (.own ir 0) D 1 fl), (14, .int .i64 d), (19, .int .i64 i)]) (fun _ => True) D rfl (fun i hi _ ih5 => ?_) (fun _ => ?_)
            · refine lp_step hmix L5_4_g [1, 3, 4, 11, 13, 14, 19] L5_4.eq_1 ?_
              have hid : i < b.defs.length := by omega
              have m9 : (i : Int) < b.defs.length := by omega
              have q1 := f2 i hid
              obtain ⟨d0, ed0⟩ : ∃ d0, d0 = b.defs[i] := ⟨_, rfl⟩
              have hmem : d0 ∈ b.defs := by rw [ed0]; exact List.getElem_mem hid
              have hd0 : b.defs[i]? = some d0 := by rw [List.getElem?_eq_getElem hid, ed0]
              have q20 : rdn w0 h (fp.add (i * 3)) 3 = some d0.c := f3 i _ (by simp [hid, ed0])
              have q2 : rd w0 H (((fp.add (i * 3)).add 1).add 1) = some (.int .i64 d0.nights.high) := by
                rw [Pl.add_add]; exact I.hs.rd (rd_get q20 rfl)
              simp only [go_sem, g1, l3, m9, q1, q2, ↓reduceIte, Nat.reduceEqDiff, Nat.reduceAdd, Nat.reduceSub, Nat.reduceMul, Nat.reduceLT, Nat.reduceLeDiff, Int.reduceLE, Int.reduceLT, Int.reduceAdd, Int.reduceSub, Int.reduceMul, Int.reduceEq, Int.reduceBEq, Int.reduceBNe, Int.reduceNeg, Int.reduceToNat, reduceCtorEq]
              refine ⟨fun es => ?_, fun es => ⟨(by unfold I64; omega), ih5 trivial⟩⟩
              have hch := hf4 d0 hmem es
              have hdb := bs.2.2.2.2.2.2.2.2.2.2.2.2.2 d0 hmem
              simp only [defB, spanB, inB, Bool.and_eq_true, decide_eq_true_eq] at hdb
              obtain ⟨lo, hlo⟩ : ∃ lo : Nat, d0.nights.low = lo := ⟨d0.nights.low.toNat, by omega⟩
              rw [hlo, es, changedD_iff hnt (by omega)] at hch
              obtain ⟨e, he1, he2, he3⟩ := hch
              have hrt := hrep3 i d0 hd0 e (by omega) he3 (by omega) (by omega)
              have hrt2 : (rs.map AV.bool)[i]? = some (.bool true) := by rw [List.getElem?_map, hrt]; rfl
              simp only [go_sem, g3, hi, Nat.mul_one, hrt2, ↓reduceIte, Nat.reduceEqDiff, Nat.reduceAdd, Nat.reduceSub, Nat.reduceMul, Nat.reduceLT, Nat.reduceLeDiff, Int.reduceLE, Int.reduceLT, Int.reduceAdd, Int.reduceSub, Int.reduceMul, Int.reduceEq, Int.reduceBEq, Int.reduceBNe, Int.reduceNeg, Int.reduceToNat, reduceCtorEq]
              exact ⟨(by unfold I64; omega), ih5 trivial⟩
            · refine lp_step hmix L5_4_g [1, 3, 4, 11, 13, 14, 19] L5_4.eq_1 ?_
              have m9 : ¬ (D : Int) < b.defs.length := by omega
              simp only [go_sem, g1, l3, m9, ↓reduceIte, Nat.reduceEqDiff, Nat.reduceAdd, Nat.reduceSub, Nat.reduceMul, Nat.reduceLT, Nat.reduceLeDiff, Int.reduceLE, Int.reduceLT, Int.reduceAdd, Int.reduceSub, Int.reduceMul, Int.reduceEq, Int.reduceBEq, Int.reduceBNe, Int.reduceNeg, Int.reduceToNat, reduceCtorEq]
              have hpn : putR b t (d + 1) = putD d P (c.take k) := by
                rw [putR, gt, ← el, ← ec, ← eP, List.take_of_length_le (by omega)]
              have := ih (d + 1, H, ts, rs) ⟨hdn, I, htl2, hrl, by
                simp only [hpn]
                intro x hx
                have := hin x hx
                rwa [show ((d + 1 : Nat) : Int) - 1 = d by omega], hrep3⟩ (by simp only; omega)
              exact ⟨(by unfold I64; omega), by simpa using this⟩
        by_cases hl0 : 0 < l.length
        · have m4 : (0 : Int) < l.length := by omega
          have hnt2 := hf2 hl0
          simp only [go_sem, m4, g1, nx2, nr2, hnt2, ↓reduceIte, Nat.reduceEqDiff, Nat.reduceAdd, Nat.reduceSub, Nat.reduceMul, Nat.reduceLT, Nat.reduceLeDiff, Int.reduceLE, Int.reduceLT, Int.reduceAdd, Int.reduceSub, Int.reduceMul, Int.reduceEq, Int.reduceBEq, Int.reduceBNe, Int.reduceNeg, Int.reduceToNat, reduceCtorEq]
          exact key
        · have m4 : ¬ (0 : Int) < l.length := by omega
          simp only [go_sem, m4, ↓reduceIte, Nat.reduceEqDiff, Nat.reduceAdd, Nat.reduceSub, Nat.reduceMul, Nat.reduceLT, Nat.reduceLeDiff, Int.reduceLE, Int.reduceLT, Int.reduceAdd, Int.reduceSub, Int.reduceMul, Int.reduceEq, Int.reduceBEq, Int.reduceBNe, Int.reduceNeg, Int.reduceToNat, reduceCtorEq]
          exact key
    · have m1 : ¬ (d : Int) < b.days.length := by omega
      have g1 := I.b1
      simp only [go_sem, g1, l2, m1, ↓reduceIte, Nat.reduceEqDiff, Nat.reduceAdd, Nat.reduceSub, Nat.reduceMul, Nat.reduceLT, Nat.reduceLeDiff, Int.reduceLE, Int.reduceLT, Int.reduceAdd, Int.reduceSub, Int.reduceMul, Int.reduceEq, Int.reduceBEq, Int.reduceBNe, Int.reduceNeg, Int.reduceToNat, reduceCtorEq]
      refine rvC_use known_c.v ?_
      simp only [go_sem, ↓reduceIte, Nat.reduceEqDiff, Nat.reduceAdd, Nat.reduceSub, Nat.reduceMul, Nat.reduceLT, Nat.reduceLeDiff, Int.reduceLE, Int.reduceLT, Int.reduceAdd, Int.reduceSub, Int.reduceMul, Int.reduceEq, Int.reduceBEq, Int.reduceBNe, Int.reduceNeg, Int.reduceToNat, reduceCtorEq]
      exact I.hs
end Go.Proofs.Ab

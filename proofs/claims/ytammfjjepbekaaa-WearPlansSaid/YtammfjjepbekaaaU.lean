/- The own layer under the proofs of this seat, part U: what calls of the program come to on an abstract heap. No condition. -/
import Derived.Test.YtammfjjepbekaaaTab
import Derived.Test.YtammfjjepbekaaaF
import Derived.Test.YtammfjjepbekaaaG
set_option linter.unusedSimpArgs false
set_option linter.unusedVariables false
namespace Go.Proofs.Ab
open Go Go.Proofs
variable {w0 : World} {h : Heap}
attribute [local irreducible] ACall ACallV AYield DCall DCallV rvC rdC lp rg dr ex un rv rd'

structure Span where
  low : Int
  high : Int
@[go_sem] def Span.c (s : Span) : List AV := [.int .i64 s.low, .int .i64 s.high]
structure WearD where
  minutes : Span
  cycles : Span
  rust : Span
@[go_sem] def WearD.c (w : WearD) : List AV := [.int .i64 w.minutes.low, .int .i64 w.minutes.high, .int .i64 w.cycles.low, .int .i64 w.cycles.high, .int .i64 w.rust.low, .int .i64 w.rust.high]
structure KindD where
  minutes : Int
  cycles : Int
  rust : Int
  salt : Span
  stand : Span
  wash : Int
@[go_sem] def KindD.c (k : KindD) : List AV := [.int .i64 k.minutes, .int .i64 k.cycles, .int .i64 k.rust, .int .i64 k.salt.low, .int .i64 k.salt.high, .int .i64 k.stand.low, .int .i64 k.stand.high, .int .i64 k.wash]
structure UseD where
  minutes : Span
  cycles : Span
  salt : Span
  washed : Bool
@[go_sem] def UseD.c (u : UseD) : List AV := [.int .i64 u.minutes.low, .int .i64 u.minutes.high, .int .i64 u.cycles.low, .int .i64 u.cycles.high, .int .i64 u.salt.low, .int .i64 u.salt.high, .bool u.washed]

@[simp] theorem Span.c_bdd (N : Nat) (s : Span) : AV.bdds N s.c := by simp [Span.c, AV.bdds, AV.bdd]
@[simp] theorem WearD.c_bdd (N : Nat) (s : WearD) : AV.bdds N s.c := by simp [WearD.c, AV.bdds, AV.bdd]
@[simp] theorem KindD.c_bdd (N : Nat) (s : KindD) : AV.bdds N s.c := by simp [KindD.c, AV.bdds, AV.bdd]
@[simp] theorem UseD.c_bdd (N : Nat) (s : UseD) : AV.bdds N s.c := by simp [UseD.c, AV.bdds, AV.bdd]

def inB (x lo hi : Int) : Bool := decide (lo ≤ x) && decide (x ≤ hi)
def spanB (s : Span) (lo hi : Int) : Bool := decide (lo ≤ s.low) && (decide (s.low ≤ s.high) && decide (s.high ≤ hi))
def kindB (k : KindD) : Bool := inB k.minutes 0 10000000 && inB k.cycles 0 10000000 && inB k.rust 0 10000000 && spanB k.salt 0 10000 && spanB k.stand 0 10000 && inB k.wash 0 1000

theorem in_c (x lo hi : Int) : DCall Try.prog w0 65 [.int .i64 x, .int .i64 lo, .int .i64 hi] h (.bool (inB x lo hi)) h := by
  refine DCall_quiet hmix mf65_ok mf65_b mf65_g (Nat.le_of_ble_eq_true rfl) (by simp [AV.bdd, AV.bdds]) fun hb ha => ex_in ?_
  simp only [go_sem, mf65, ↓reduceIte, Nat.reduceEqDiff, Nat.reduceAdd, Nat.reduceSub, Nat.reduceMul, Nat.reduceLT, Nat.reduceLeDiff, Int.reduceLE, Int.reduceLT, Int.reduceAdd, Int.reduceSub, Int.reduceMul, Int.reduceEq, Int.reduceBEq, Int.reduceBNe, Int.reduceNeg, Int.reduceToNat, reduceCtorEq]
  exact ⟨fun a => by simp [inB, a], fun a => by simp [inB, a]⟩

theorem span_c (s : Span) (lo hi : Int) : DCall Try.prog w0 90 [.agg s.c, .int .i64 lo, .int .i64 hi] h (.bool (spanB s lo hi)) h := by
  refine DCall_quiet hmix mf90_ok mf90_b mf90_g (Nat.le_of_ble_eq_true rfl) (by simp [AV.bdd, AV.bdds]) fun hb ha => ex_in ?_
  simp only [go_sem, mf90, ↓reduceIte, Nat.reduceEqDiff, Nat.reduceAdd, Nat.reduceSub, Nat.reduceMul, Nat.reduceLT, Nat.reduceLeDiff, Int.reduceLE, Int.reduceLT, Int.reduceAdd, Int.reduceSub, Int.reduceMul, Int.reduceEq, Int.reduceBEq, Int.reduceBNe, Int.reduceNeg, Int.reduceToNat, reduceCtorEq]
  refine ⟨fun a => ⟨fun b => ?_, fun b => ?_⟩, fun a => ?_⟩ <;> simp_all [spanB] <;> omega

theorem kind_c (k : KindD) : DCall Try.prog w0 54 [.agg k.c] h (.bool (kindB k)) h := by
  refine DCall_quiet hmix mf54_ok mf54_b mf54_g (Nat.le_of_ble_eq_true rfl) (by simp [AV.bdd, AV.bdds]) fun hb ha => ex_in ?_
  simp only [go_sem, mf54, ↓reduceIte, Nat.reduceEqDiff, Nat.reduceAdd, Nat.reduceSub, Nat.reduceMul, Nat.reduceLT, Nat.reduceLeDiff, Int.reduceLE, Int.reduceLT, Int.reduceAdd, Int.reduceSub, Int.reduceMul, Int.reduceEq, Int.reduceBEq, Int.reduceBNe, Int.reduceNeg, Int.reduceToNat, reduceCtorEq]
  repeat' first | (refine rvC_use (in_c _ _ _).v ?_; simp only [go_sem, ↓reduceIte, Nat.reduceEqDiff, Nat.reduceAdd, Nat.reduceSub, Nat.reduceMul, Nat.reduceLT, Nat.reduceLeDiff, Int.reduceLE, Int.reduceLT, Int.reduceAdd, Int.reduceSub, Int.reduceMul, Int.reduceEq, Int.reduceBEq, Int.reduceBNe, Int.reduceNeg, Int.reduceToNat, reduceCtorEq]) | (refine rdC_q (in_c _ _ _).v ?_; simp only [go_sem, ↓reduceIte, Nat.reduceEqDiff, Nat.reduceAdd, Nat.reduceSub, Nat.reduceMul, Nat.reduceLT, Nat.reduceLeDiff, Int.reduceLE, Int.reduceLT, Int.reduceAdd, Int.reduceSub, Int.reduceMul, Int.reduceEq, Int.reduceBEq, Int.reduceBNe, Int.reduceNeg, Int.reduceToNat, reduceCtorEq]) | (refine rvC_use (span_c _ _ _).v ?_; simp only [go_sem, ↓reduceIte, Nat.reduceEqDiff, Nat.reduceAdd, Nat.reduceSub, Nat.reduceMul, Nat.reduceLT, Nat.reduceLeDiff, Int.reduceLE, Int.reduceLT, Int.reduceAdd, Int.reduceSub, Int.reduceMul, Int.reduceEq, Int.reduceBEq, Int.reduceBNe, Int.reduceNeg, Int.reduceToNat, reduceCtorEq]) | (refine rdC_q (span_c _ _ _).v ?_; simp only [go_sem, ↓reduceIte, Nat.reduceEqDiff, Nat.reduceAdd, Nat.reduceSub, Nat.reduceMul, Nat.reduceLT, Nat.reduceLeDiff, Int.reduceLE, Int.reduceLT, Int.reduceAdd, Int.reduceSub, Int.reduceMul, Int.reduceEq, Int.reduceBEq, Int.reduceBNe, Int.reduceNeg, Int.reduceToNat, reduceCtorEq]) | (refine And.intro ?_ ?_) | (intro _)
  all_goals simp_all [kindB]

def wornB (w : WearD) : Bool := spanB w.minutes 0 10000000 && spanB w.cycles 0 10000000 && spanB w.rust 0 10000000
def dayB (u : UseD) : Bool := spanB u.minutes 0 1440 && spanB u.cycles 0 200 && spanB u.salt 0 u.cycles.high

theorem worn_c (k : WearD) : DCall Try.prog w0 55 [.agg k.c] h (.bool (wornB k)) h := by
  refine DCall_quiet hmix mf55_ok mf55_b mf55_g (Nat.le_of_ble_eq_true rfl) (by simp [AV.bdd, AV.bdds]) fun hb ha => ex_in ?_
  simp only [go_sem, mf55, ↓reduceIte, Nat.reduceEqDiff, Nat.reduceAdd, Nat.reduceSub, Nat.reduceMul, Nat.reduceLT, Nat.reduceLeDiff, Int.reduceLE, Int.reduceLT, Int.reduceAdd, Int.reduceSub, Int.reduceMul, Int.reduceEq, Int.reduceBEq, Int.reduceBNe, Int.reduceNeg, Int.reduceToNat, reduceCtorEq]
  repeat' first | (refine rvC_use (span_c _ _ _).v ?_; simp only [go_sem, ↓reduceIte, Nat.reduceEqDiff, Nat.reduceAdd, Nat.reduceSub, Nat.reduceMul, Nat.reduceLT, Nat.reduceLeDiff, Int.reduceLE, Int.reduceLT, Int.reduceAdd, Int.reduceSub, Int.reduceMul, Int.reduceEq, Int.reduceBEq, Int.reduceBNe, Int.reduceNeg, Int.reduceToNat, reduceCtorEq]) | (refine rdC_q (span_c _ _ _).v ?_; simp only [go_sem, ↓reduceIte, Nat.reduceEqDiff, Nat.reduceAdd, Nat.reduceSub, Nat.reduceMul, Nat.reduceLT, Nat.reduceLeDiff, Int.reduceLE, Int.reduceLT, Int.reduceAdd, Int.reduceSub, Int.reduceMul, Int.reduceEq, Int.reduceBEq, Int.reduceBNe, Int.reduceNeg, Int.reduceToNat, reduceCtorEq]) | (refine And.intro ?_ ?_) | (intro _)
  all_goals simp_all [wornB]

theorem day_c (k : UseD) : DCall Try.prog w0 56 [.agg k.c] h (.bool (dayB k)) h := by
  refine DCall_quiet hmix mf56_ok mf56_b mf56_g (Nat.le_of_ble_eq_true rfl) (by simp [AV.bdd, AV.bdds]) fun hb ha => ex_in ?_
  simp only [go_sem, mf56, ↓reduceIte, Nat.reduceEqDiff, Nat.reduceAdd, Nat.reduceSub, Nat.reduceMul, Nat.reduceLT, Nat.reduceLeDiff, Int.reduceLE, Int.reduceLT, Int.reduceAdd, Int.reduceSub, Int.reduceMul, Int.reduceEq, Int.reduceBEq, Int.reduceBNe, Int.reduceNeg, Int.reduceToNat, reduceCtorEq]
  repeat' first | (refine rvC_use (span_c _ _ _).v ?_; simp only [go_sem, ↓reduceIte, Nat.reduceEqDiff, Nat.reduceAdd, Nat.reduceSub, Nat.reduceMul, Nat.reduceLT, Nat.reduceLeDiff, Int.reduceLE, Int.reduceLT, Int.reduceAdd, Int.reduceSub, Int.reduceMul, Int.reduceEq, Int.reduceBEq, Int.reduceBNe, Int.reduceNeg, Int.reduceToNat, reduceCtorEq]) | (refine rdC_q (span_c _ _ _).v ?_; simp only [go_sem, ↓reduceIte, Nat.reduceEqDiff, Nat.reduceAdd, Nat.reduceSub, Nat.reduceMul, Nat.reduceLT, Nat.reduceLeDiff, Int.reduceLE, Int.reduceLT, Int.reduceAdd, Int.reduceSub, Int.reduceMul, Int.reduceEq, Int.reduceBEq, Int.reduceBNe, Int.reduceNeg, Int.reduceToNat, reduceCtorEq]) | (refine And.intro ?_ ?_) | (intro _)
  all_goals simp_all [dayB]

def plus (a s : Span) : Span := ⟨min 10000000 (a.low + s.low), min 10000000 (a.high + s.high)⟩
def sumS (a : Span) : List Span → Span
  | [] => a
  | s :: l => sumS (plus a s) l
def small (s : Span) : Prop := 0 ≤ s.low ∧ s.low ≤ 1000000000000 ∧ 0 ≤ s.high ∧ s.high ≤ 1000000000000

theorem sum_c (l : List Span) (v : AV) (hv : Sl w0 h 2 v (l.map Span.c)) (hs : ∀ s ∈ l, small s) (hn : l.length < 1000000) : DCall Try.prog w0 107 [v] h (.agg (sumS ⟨0, 0⟩ l).c) h := by
  refine DCall_quiet hmix mf107_ok mf107_b mf107_g (Nat.le_of_ble_eq_true rfl) (by simp [AV.bdd, AV.bdds]) fun hb ha => ex_in ?_
  obtain ⟨hlen, p, hidx, hrow, hp⟩ := hv.use
  simp only [List.length_map] at hlen hidx
  simp only [go_sem, mf107, hlen, ↓reduceIte, Nat.reduceEqDiff, Nat.reduceAdd, Nat.reduceSub, Nat.reduceMul, Nat.reduceLT, Nat.reduceLeDiff, Int.reduceLE, Int.reduceLT, Int.reduceAdd, Int.reduceSub, Int.reduceMul, Int.reduceEq, Int.reduceBEq, Int.reduceBNe, Int.reduceNeg, Int.reduceToNat, reduceCtorEq]
  refine lp_ind (S := Nat × Span) (F := fun s => [(2, .ptr (.own h.length 0)), (3, .ptr (.own (h.length + 1) 0)), (6, v), (7, .int .i64 l.length), (8, .int .i64 s.1)])
    (H := fun s => h ++ [some (.row [.int .i64 0, .int .i64 0]), some (.row s.2.c)]) (meas := fun s => l.length - s.1)
    (Inv := fun s => s.1 ≤ l.length ∧ small s.2 ∧ sumS s.2 (l.drop s.1) = sumS ⟨0, 0⟩ l) (0, ⟨0, 0⟩) ⟨Nat.zero_le _, by simp [small], rfl⟩ rfl rfl ?_
  rintro ⟨k, a⟩ ⟨h1, h2, h3⟩ ih
  refine lp_step hmix L107_0_g [2, 3, 6, 7, 8] L107_0.eq_1 ?_
  by_cases hk : k < l.length
  · have e1 := hidx k hk
    have e2 : ∀ L, rdn w0 (h ++ L) (p.add (k * 2)) 2 = some l[k].c := fun L => rdn_app (hrow k _ (by simp [hk]))
    have e3 : (k : Int) < l.length := by omega
    have e4 := hs l[k] (List.getElem_mem hk)
    simp only [go_sem, e1, e2, e3, ↓reduceIte, Nat.reduceEqDiff, Nat.reduceAdd, Nat.reduceSub, Nat.reduceMul, Nat.reduceLT, Nat.reduceLeDiff, Int.reduceLE, Int.reduceLT, Int.reduceAdd, Int.reduceSub, Int.reduceMul, Int.reduceEq, Int.reduceBEq, Int.reduceBNe, Int.reduceNeg, Int.reduceToNat, reduceCtorEq]
    simp only [small] at h2 e4
    refine ⟨(by unfold I64; omega), (by unfold I64; omega), (by unfold I64; omega), ?_⟩
    refine lp_drop 2 hb (by simp [HBs_some, HBs_none, HBs_nil, FB_cons, FB_nil, row_bdd, AV.bdds, AV.bdd, Pl.bdd, loop_bddT]) (by simp [HBs_some, HBs_none, HBs_nil, FB_cons, FB_nil, row_bdd, AV.bdds, AV.bdd, Pl.bdd, loop_bddT, hv.bdd]) (ih (k + 1, plus a l[k]) ⟨hk, ?_, ?_⟩ (by simp; omega))
    · simp only [small, plus]; omega
    · rw [← h3, List.drop_eq_getElem_cons hk]; rfl
  · have e3 : ¬ (k : Int) < l.length := by omega
    simp only [go_sem, e3, ↓reduceIte, Nat.reduceEqDiff, Nat.reduceAdd, Nat.reduceSub, Nat.reduceMul, Nat.reduceLT, Nat.reduceLeDiff, Int.reduceLE, Int.reduceLT, Int.reduceAdd, Int.reduceSub, Int.reduceMul, Int.reduceEq, Int.reduceBEq, Int.reduceBNe, Int.reduceNeg, Int.reduceToNat, reduceCtorEq]
    rw [List.drop_eq_nil_of_le (by omega)] at h3
    simp [← h3, sumS]

theorem Sl_lit (rows : List (List AV)) {es : Nat} (full : Bool) {L : Heap} (k : Nat) (hk : L[k]? = some (some (.row rows.flatten))) (hr : ∀ c ∈ rows, c.length = es) : Sl w0 (h ++ L) es (.sl (.own (h.length + k) 0) rows.length es full) rows := by
  have hkl : k < L.length := by
    rcases Nat.lt_or_ge k L.length with a | a
    · exact a
    · rw [List.getElem?_eq_none a] at hk; cases hk
  refine .inr ⟨_, full, ⟨es, rfl, esOk_s⟩, by simp [Pl.bdd]; exact hkl, fun j c hc => ?_⟩
  simp only [Pl.add, rdn]
  rw [List.getElem?_append_right (by omega), Nat.add_sub_cancel_left, hk]
  simp only [Nat.zero_add]
  have hlen : ∀ (rows : List (List AV)), (∀ c ∈ rows, c.length = es) → rows.flatten.length = rows.length * es := fun rows => by
    induction rows with
    | nil => intro _; simp
    | cons x xs ih => intro hx; simp [ih (fun c hc => hx c (by simp [hc])), hx x (by simp), Nat.add_mul]; omega
  have hjl := get_some_lt hc
  have key : ∀ (rows : List (List AV)) (j : Nat) c, (∀ c ∈ rows, c.length = es) → rows[j]? = some c → (rows.flatten.drop (j * es)).take es = c := fun rows => by
    induction rows with
    | nil => intro j c _ hc; simp at hc
    | cons x xs ih =>
      intro j c hx hc
      have hxl := hx x (by simp)
      cases j with
      | zero => simp at hc; subst hc; simp [← hxl]
      | succ j =>
        have := ih j c (fun c hc => hx c (by simp [hc])) (by simpa using hc)
        rw [List.flatten_cons, Nat.succ_mul, Nat.add_comm, ← hxl, ← List.drop_drop, List.drop_left, hxl]; exact this
  rw [if_pos (by rw [hlen rows hr]; calc j * es + es = (j + 1) * es := by rw [Nat.add_mul]; omega
                                         _ ≤ rows.length * es := Nat.mul_le_mul_right _ hjl), key rows j c hr hc]

theorem sum2_c (a b : Span) {L : Heap} (k : Nat) (hk : L[k]? = some (some (.row [.int .i64 a.low, .int .i64 a.high, .int .i64 b.low, .int .i64 b.high]))) (ha : small a) (hb : small b) :
    DCall Try.prog w0 107 [.sl (.own (h.length + k) 0) 2 2 true] (h ++ L) (.agg (sumS ⟨0, 0⟩ [a, b]).c) (h ++ L) :=
  sum_c [a, b] _ (Sl_lit [a.c, b.c] true k hk (by simp [Span.c])) (by simp [ha, hb]) (by simp)

def rustOf (k : KindD) (u : UseD) : Span :=
  let r : Span := ⟨k.salt.low * u.salt.low + k.stand.low, k.salt.high * u.salt.high + k.stand.high⟩
  if u.washed then ⟨r.low * k.wash / 1000, (r.high * k.wash + 999) / 1000⟩ else r
def growS (k : KindD) (w : WearD) (u : UseD) : WearD := ⟨sumS ⟨0, 0⟩ [w.minutes, u.minutes], sumS ⟨0, 0⟩ [w.cycles, u.cycles], sumS ⟨0, 0⟩ [w.rust, rustOf k u]⟩

theorem mul_bd {a b A B : Int} (h1 : 0 ≤ a) (h2 : a ≤ A) (h3 : 0 ≤ b) (h4 : b ≤ B) : 0 ≤ a * b ∧ a * b ≤ A * B :=
  ⟨Int.mul_nonneg h1 h3, Int.mul_le_mul h2 h4 h3 (Int.le_trans h1 h2)⟩

theorem kindB_spec {k : KindD} (h : kindB k = true) : 0 ≤ k.minutes ∧ k.minutes ≤ 10000000 ∧ 0 ≤ k.cycles ∧ k.cycles ≤ 10000000 ∧ 0 ≤ k.rust ∧ k.rust ≤ 10000000 ∧ 0 ≤ k.salt.low ∧ k.salt.low ≤ k.salt.high ∧ k.salt.high ≤ 10000 ∧
    0 ≤ k.stand.low ∧ k.stand.low ≤ k.stand.high ∧ k.stand.high ≤ 10000 ∧ 0 ≤ k.wash ∧ k.wash ≤ 1000 := by
  simp only [kindB, inB, spanB, Bool.and_eq_true, decide_eq_true_eq] at h; omega
theorem wornB_spec {w : WearD} (h : wornB w = true) : 0 ≤ w.minutes.low ∧ w.minutes.low ≤ w.minutes.high ∧ w.minutes.high ≤ 10000000 ∧ 0 ≤ w.cycles.low ∧ w.cycles.low ≤ w.cycles.high ∧ w.cycles.high ≤ 10000000 ∧ 0 ≤ w.rust.low ∧ w.rust.low ≤ w.rust.high ∧ w.rust.high ≤ 10000000 := by
  simp only [wornB, spanB, Bool.and_eq_true, decide_eq_true_eq] at h; omega
theorem dayB_spec {u : UseD} (h : dayB u = true) : 0 ≤ u.minutes.low ∧ u.minutes.low ≤ u.minutes.high ∧ u.minutes.high ≤ 1440 ∧ 0 ≤ u.cycles.low ∧ u.cycles.low ≤ u.cycles.high ∧ u.cycles.high ≤ 200 ∧ 0 ≤ u.salt.low ∧ u.salt.low ≤ u.salt.high ∧ u.salt.high ≤ u.cycles.high := by
  simp only [dayB, spanB, Bool.and_eq_true, decide_eq_true_eq] at h; omega

theorem grow_c (k : KindD) (w : WearD) (u : UseD) (hk : kindB k = true) (hw : wornB w = true) (hu : dayB u = true) : DCall Try.prog w0 57 [.agg k.c, .agg w.c, .agg u.c] h (.agg (growS k w u).c) h := by
  refine DCall_quiet hmix mf57_ok mf57_b mf57_g (Nat.le_of_ble_eq_true rfl) (by simp [AV.bdd, AV.bdds]) fun hb ha => ex_in ?_
  have bk := kindB_spec hk
  have bw := wornB_spec hw
  have bu := dayB_spec hu
  have m1 := mul_bd (a := k.salt.low) (A := 10000) (b := u.salt.low) (B := 200) (by omega) (by omega) (by omega) (by omega)
  have m2 := mul_bd (a := k.salt.high) (A := 10000) (b := u.salt.high) (B := 200) (by omega) (by omega) (by omega) (by omega)
  have m3 := mul_bd (a := k.salt.low * u.salt.low + k.stand.low) (A := 2010000) (b := k.wash) (B := 1000) (by omega) (by omega) (by omega) (by omega)
  have m4 := mul_bd (a := k.salt.high * u.salt.high + k.stand.high) (A := 2010000) (b := k.wash) (B := 1000) (by omega) (by omega) (by omega) (by omega)
  have d1 := Int.tdiv_eq_ediv_of_nonneg (b := 1000) m3.1
  have d2 : ((k.salt.high * u.salt.high + k.stand.high) * k.wash + 999).tdiv 1000 = ((k.salt.high * u.salt.high + k.stand.high) * k.wash + 999) / 1000 := Int.tdiv_eq_ediv_of_nonneg (by omega)
  cases hwash : u.washed
  · simp only [go_sem, mf57, hwash, ↓reduceIte, Nat.reduceEqDiff, Nat.reduceAdd, Nat.reduceSub, Nat.reduceMul, Nat.reduceLT, Nat.reduceLeDiff, Int.reduceLE, Int.reduceLT, Int.reduceAdd, Int.reduceSub, Int.reduceMul, Int.reduceEq, Int.reduceBEq, Int.reduceBNe, Int.reduceNeg, Int.reduceToNat, reduceCtorEq]
    refine ⟨(by unfold I64; omega), (by unfold I64; omega), (by unfold I64; omega), (by unfold I64; omega), ?_⟩
    refine dr_use hmix O57_0 [] D57_0.eq_1 O57_0_ok O57_0_ok2 List.nodup_nil (by simp) ?_
    simp only [go_sem, O57_0, ↓reduceIte, Nat.reduceEqDiff, Nat.reduceAdd, Nat.reduceSub, Nat.reduceMul, Nat.reduceLT, Nat.reduceLeDiff, Int.reduceLE, Int.reduceLT, Int.reduceAdd, Int.reduceSub, Int.reduceMul, Int.reduceEq, Int.reduceBEq, Int.reduceBNe, Int.reduceNeg, Int.reduceToNat, reduceCtorEq]
    refine gmC_use (sum2_c w.minutes u.minutes 5 rfl (by simp only [small]; omega) (by simp only [small]; omega)).v ?_
    simp only [go_sem, ↓reduceIte, Nat.reduceEqDiff, Nat.reduceAdd, Nat.reduceSub, Nat.reduceMul, Nat.reduceLT, Nat.reduceLeDiff, Int.reduceLE, Int.reduceLT, Int.reduceAdd, Int.reduceSub, Int.reduceMul, Int.reduceEq, Int.reduceBEq, Int.reduceBNe, Int.reduceNeg, Int.reduceToNat, reduceCtorEq]
    refine gmC_use (sum2_c w.cycles u.cycles 6 rfl (by simp only [small]; omega) (by simp only [small]; omega)).v ?_
    simp only [go_sem, ↓reduceIte, Nat.reduceEqDiff, Nat.reduceAdd, Nat.reduceSub, Nat.reduceMul, Nat.reduceLT, Nat.reduceLeDiff, Int.reduceLE, Int.reduceLT, Int.reduceAdd, Int.reduceSub, Int.reduceMul, Int.reduceEq, Int.reduceBEq, Int.reduceBNe, Int.reduceNeg, Int.reduceToNat, reduceCtorEq]
    refine gmC_use (sum2_c w.rust ⟨k.salt.low * u.salt.low + k.stand.low, k.salt.high * u.salt.high + k.stand.high⟩ 7 rfl (by simp only [small]; omega) (by simp only [small]; omega)).v ?_
    simp only [go_sem, ↓reduceIte, Nat.reduceEqDiff, Nat.reduceAdd, Nat.reduceSub, Nat.reduceMul, Nat.reduceLT, Nat.reduceLeDiff, Int.reduceLE, Int.reduceLT, Int.reduceAdd, Int.reduceSub, Int.reduceMul, Int.reduceEq, Int.reduceBEq, Int.reduceBNe, Int.reduceNeg, Int.reduceToNat, reduceCtorEq]
    simp [growS, rustOf, hwash]
  · simp only [go_sem, mf57, d1, d2, hwash, ↓reduceIte, Nat.reduceEqDiff, Nat.reduceAdd, Nat.reduceSub, Nat.reduceMul, Nat.reduceLT, Nat.reduceLeDiff, Int.reduceLE, Int.reduceLT, Int.reduceAdd, Int.reduceSub, Int.reduceMul, Int.reduceEq, Int.reduceBEq, Int.reduceBNe, Int.reduceNeg, Int.reduceToNat, reduceCtorEq]
    refine ⟨(by unfold I64; omega), (by unfold I64; omega), (by unfold I64; omega), (by unfold I64; omega), (by unfold I64; omega), (by unfold I64; omega), (by unfold I64; omega), (by unfold I64; omega), (by unfold I64; omega), ?_⟩
    refine dr_use hmix O57_0 [] D57_0.eq_1 O57_0_ok O57_0_ok2 List.nodup_nil (by simp) ?_
    simp only [go_sem, O57_0, ↓reduceIte, Nat.reduceEqDiff, Nat.reduceAdd, Nat.reduceSub, Nat.reduceMul, Nat.reduceLT, Nat.reduceLeDiff, Int.reduceLE, Int.reduceLT, Int.reduceAdd, Int.reduceSub, Int.reduceMul, Int.reduceEq, Int.reduceBEq, Int.reduceBNe, Int.reduceNeg, Int.reduceToNat, reduceCtorEq]
    refine gmC_use (sum2_c w.minutes u.minutes 5 rfl (by simp only [small]; omega) (by simp only [small]; omega)).v ?_
    simp only [go_sem, ↓reduceIte, Nat.reduceEqDiff, Nat.reduceAdd, Nat.reduceSub, Nat.reduceMul, Nat.reduceLT, Nat.reduceLeDiff, Int.reduceLE, Int.reduceLT, Int.reduceAdd, Int.reduceSub, Int.reduceMul, Int.reduceEq, Int.reduceBEq, Int.reduceBNe, Int.reduceNeg, Int.reduceToNat, reduceCtorEq]
    refine gmC_use (sum2_c w.cycles u.cycles 6 rfl (by simp only [small]; omega) (by simp only [small]; omega)).v ?_
    simp only [go_sem, ↓reduceIte, Nat.reduceEqDiff, Nat.reduceAdd, Nat.reduceSub, Nat.reduceMul, Nat.reduceLT, Nat.reduceLeDiff, Int.reduceLE, Int.reduceLT, Int.reduceAdd, Int.reduceSub, Int.reduceMul, Int.reduceEq, Int.reduceBEq, Int.reduceBNe, Int.reduceNeg, Int.reduceToNat, reduceCtorEq]
    refine gmC_use (sum2_c w.rust ⟨(k.salt.low * u.salt.low + k.stand.low) * k.wash / 1000, ((k.salt.high * u.salt.high + k.stand.high) * k.wash + 999) / 1000⟩ 7 rfl (by simp only [small]; omega) (by simp only [small]; omega)).v ?_
    simp only [go_sem, ↓reduceIte, Nat.reduceEqDiff, Nat.reduceAdd, Nat.reduceSub, Nat.reduceMul, Nat.reduceLT, Nat.reduceLeDiff, Int.reduceLE, Int.reduceLT, Int.reduceAdd, Int.reduceSub, Int.reduceMul, Int.reduceEq, Int.reduceBEq, Int.reduceBNe, Int.reduceNeg, Int.reduceToNat, reduceCtorEq]
    simp [growS, rustOf, hwash]
end Go.Proofs.Ab

namespace Go.Proofs.Ab
open Go Go.Proofs
variable {w0 : World} {h : Heap}
attribute [local irreducible] ACall ACallV AYield DCall DCallV rvC rdC lp rg dr ex un rv rd'

structure PartD where
  kind : Int
  wear : WearD
@[go_sem] def PartD.c (p : PartD) : List AV := [.int .i64 p.kind, .int .i64 p.wear.minutes.low, .int .i64 p.wear.minutes.high, .int .i64 p.wear.cycles.low, .int .i64 p.wear.cycles.high, .int .i64 p.wear.rust.low, .int .i64 p.wear.rust.high]
structure DefD where
  slot : Int
  nights : Span
@[go_sem] def DefD.c (d : DefD) : List AV := [.int .i64 d.slot, .int .i64 d.nights.low, .int .i64 d.nights.high]
@[simp] theorem PartD.c_bdd (N : Nat) (s : PartD) : AV.bdds N s.c := by simp [PartD.c, AV.bdds, AV.bdd]
@[simp] theorem DefD.c_bdd (N : Nat) (s : DefD) : AV.bdds N s.c := by simp [DefD.c, AV.bdds, AV.bdd]
structure BayD where
  kinds : List KindD
  slots : List PartD
  days : List UseD
  nights : List Bool
  most : Int
  defs : List DefD
structure BayV where
  kv : AV
  sv : AV
  dv : AV
  nv : AV
  fv : AV
@[go_sem] def bayC (b : BayD) (v : BayV) : List AV := [v.kv, v.sv, v.dv, v.nv, .int .i64 b.most, v.fv]
structure BayR (w0 : World) (h : Heap) (b : BayD) (v : BayV) : Prop where
  kinds : Sl w0 h 8 v.kv (b.kinds.map KindD.c)
  slots : Sl w0 h 7 v.sv (b.slots.map PartD.c)
  days : Sl w0 h 7 v.dv (b.days.map UseD.c)
  nights : Sl w0 h 1 v.nv (b.nights.map fun x => [.bool x])
  defs : Sl w0 h 3 v.fv (b.defs.map DefD.c)
  len : b.kinds.length < 1000000 ∧ b.slots.length < 1000000 ∧ b.days.length < 1000000 ∧ b.nights.length < 1000000 ∧ b.defs.length < 1000000

theorem BayR.app {b : BayD} {v : BayV} {L : Heap} (s : BayR w0 h b v) : BayR w0 (h ++ L) b v := ⟨s.kinds.app, s.slots.app, s.days.app, s.nights.app, s.defs.app, s.len⟩
theorem BayR.bdd {b : BayD} {v : BayV} (s : BayR w0 h b v) {N : Nat} (hN : h.length ≤ N) : AV.bdds N (bayC b v) := by
  simp [bayC, AV.bdds, AV.bdd, s.kinds.bdd hN, s.slots.bdd hN, s.days.bdd hN, s.nights.bdd hN, s.defs.bdd hN]

def idxOf {α : Type} (p : α → Bool) (l : List α) : Int := match l.findIdx? p with
  | some i => i
  | none => -1
theorem idxOf_ge {α : Type} (p : α → Bool) (l : List α) : decide (0 ≤ idxOf p l) = l.any p := by
  unfold idxOf
  cases e : l.findIdx? p with
  | none =>
    rw [List.findIdx?_eq_none_iff] at e
    have : l.any p = false := List.any_eq_false.2 fun x hx => by simp [e x hx]
    rw [this]; rfl
  | some i =>
    rw [List.findIdx?_eq_some_iff_getElem] at e
    obtain ⟨hi, hp, _⟩ := e
    rw [List.any_eq_true.2 ⟨_, List.getElem_mem hi, hp⟩]; simp
theorem idxOf_at {α : Type} {p : α → Bool} {l : List α} {j : Nat} (hj : j < l.length) (h1 : ∀ i, i < j → ∀ hi : i < l.length, p l[i] = false) (h2 : p l[j] = true) : idxOf p l = j := by
  have : l.findIdx? p = some j := List.findIdx?_eq_some_iff_getElem.2 ⟨hj, h2, fun i hi => by simp [h1 i hi (by omega)]⟩
  simp [idxOf, this]
theorem idxOf_none {α : Type} {p : α → Bool} {l : List α} (h1 : ∀ i (hi : i < l.length), p l[i] = false) : idxOf p l = -1 := by
  have : l.findIdx? p = none := List.findIdx?_eq_none_iff.2 fun x hx => by
    obtain ⟨i, hi, rfl⟩ := List.getElem_of_mem hx
    exact h1 i hi
  simp [idxOf, this]

theorem indexFuncD_c (l : List DefD) (v f : AV) (p : DefD → Bool) (hv : Sl w0 h 3 v (l.map DefD.c)) (hn : l.length < 1000000) (hf : ∀ d ∈ l, DCallV Try.prog w0 f [.agg d.c] (h ++ []) (.bool (p d)) (h ++ [])) :
    DCall Try.prog w0 128 [v, f] h (.int .i64 (idxOf p l)) h := by
  refine DCall_quiet hmix mf128_ok mf128_b mf128_g (Nat.le_of_ble_eq_true rfl) (by simp [AV.bdd, AV.bdds]) fun hb ha => ex_in ?_
  obtain ⟨hlen, q, hidx, hrow, hp⟩ := hv.use
  simp only [List.length_map] at hlen hidx
  simp only [go_sem, mf128, hlen, ↓reduceIte, Nat.reduceEqDiff, Nat.reduceAdd, Nat.reduceSub, Nat.reduceMul, Nat.reduceLT, Nat.reduceLeDiff, Int.reduceLE, Int.reduceLT, Int.reduceAdd, Int.reduceSub, Int.reduceMul, Int.reduceEq, Int.reduceBEq, Int.reduceBNe, Int.reduceNeg, Int.reduceToNat, reduceCtorEq]
  have hfb : f.bdd h.length := by simp only [AV.bdds] at ha; exact ha.2.1
  refine lp_all (fun j => [(0, v), (1, f), (7, .int .i64 l.length), (8, .int .i64 j)]) (fun j => ∀ hj : j < l.length, p l[j] = false) l.length rfl (fun j hj hi ih => ?_) (fun hi => ?_)
  · refine lp_step hmix L128_0_g [0, 1, 7, 8] L128_0.eq_1 ?_
    have e1 := hidx j hj
    have e2 : ∀ L, rdn w0 (h ++ L) (q.add (j * 3)) 3 = some l[j].c := fun L => rdn_app (hrow j _ (by simp [hj]))
    have e3 : (j : Int) < l.length := by omega
    simp only [go_sem, e1, e2, e3, ↓reduceIte, Nat.reduceEqDiff, Nat.reduceAdd, Nat.reduceSub, Nat.reduceMul, Nat.reduceLT, Nat.reduceLeDiff, Int.reduceLE, Int.reduceLT, Int.reduceAdd, Int.reduceSub, Int.reduceMul, Int.reduceEq, Int.reduceBEq, Int.reduceBNe, Int.reduceNeg, Int.reduceToNat, reduceCtorEq]
    refine rvC_use (hf l[j] (List.getElem_mem hj)) ?_
    simp only [go_sem, ↓reduceIte, Nat.reduceEqDiff, Nat.reduceAdd, Nat.reduceSub, Nat.reduceMul, Nat.reduceLT, Nat.reduceLeDiff, Int.reduceLE, Int.reduceLT, Int.reduceAdd, Int.reduceSub, Int.reduceMul, Int.reduceEq, Int.reduceBEq, Int.reduceBNe, Int.reduceNeg, Int.reduceToNat, reduceCtorEq]
    refine ⟨fun e => ?_, fun e => ⟨(by unfold I64; omega), ih fun _ => e⟩⟩
    rw [idxOf_at hj hi e]
  · refine lp_step hmix L128_0_g [0, 1, 7, 8] L128_0.eq_1 ?_
    have e3 : ¬ (l.length : Int) < l.length := by omega
    simp only [go_sem, e3, ↓reduceIte, Nat.reduceEqDiff, Nat.reduceAdd, Nat.reduceSub, Nat.reduceMul, Nat.reduceLT, Nat.reduceLeDiff, Int.reduceLE, Int.reduceLT, Int.reduceAdd, Int.reduceSub, Int.reduceMul, Int.reduceEq, Int.reduceBEq, Int.reduceBNe, Int.reduceNeg, Int.reduceToNat, reduceCtorEq]
    rw [idxOf_none (fun i hi' => hi i hi' hi')]

theorem containsFuncD_c (l : List DefD) (v f : AV) (p : DefD → Bool) (hv : Sl w0 h 3 v (l.map DefD.c)) (hn : l.length < 1000000) (hf : ∀ d ∈ l, DCallV Try.prog w0 f [.agg d.c] (h ++ []) (.bool (p d)) (h ++ [])) :
    DCall Try.prog w0 108 [v, f] h (.bool (l.any p)) h := by
  refine DCall_quiet hmix mf108_ok mf108_b mf108_g (Nat.le_of_ble_eq_true rfl) (by simp [AV.bdd, AV.bdds]) fun hb ha => ex_in ?_
  simp only [go_sem, mf108, ↓reduceIte, Nat.reduceEqDiff, Nat.reduceAdd, Nat.reduceSub, Nat.reduceMul, Nat.reduceLT, Nat.reduceLeDiff, Int.reduceLE, Int.reduceLT, Int.reduceAdd, Int.reduceSub, Int.reduceMul, Int.reduceEq, Int.reduceBEq, Int.reduceBNe, Int.reduceNeg, Int.reduceToNat, reduceCtorEq]
  refine rvC_use (indexFuncD_c l v f p hv.app hn (by simpa using hf)).v ?_
  simp only [go_sem, ↓reduceIte, Nat.reduceEqDiff, Nat.reduceAdd, Nat.reduceSub, Nat.reduceMul, Nat.reduceLT, Nat.reduceLeDiff, Int.reduceLE, Int.reduceLT, Int.reduceAdd, Int.reduceSub, Int.reduceMul, Int.reduceEq, Int.reduceBEq, Int.reduceBNe, Int.reduceNeg, Int.reduceToNat, reduceCtorEq]
  rw [idxOf_ge]

def defB (b : BayD) (d : DefD) : Bool := inB d.slot 0 (b.slots.length - 1) && spanB d.nights 0 (b.days.length - 1)
def partB (b : BayD) (p : PartD) : Bool := inB p.kind 0 (b.kinds.length - 1) && wornB p.wear
def bayB (b : BayD) : Bool :=
  inB b.kinds.length 1 8 && inB b.slots.length 1 5 && inB b.days.length 1 30 && (b.nights.length == b.days.length) && inB b.most 1 5 && decide (b.defs.length ≤ 8) &&
  b.kinds.all kindB && b.slots.all (partB b) && b.days.all dayB && b.defs.all (defB b)

theorem bay1_c (b : BayD) (v : BayV) (d : DefD) {i : Nat} (hi : h[i]? = some (some (.row (bayC b v)))) (hR : BayR w0 h b v) : DCall Try.prog w0 109 [.agg d.c, .ptr (.own i 0)] h (.bool (!defB b d)) h := by
  refine DCall_quiet hmix mf109_ok mf109_b mf109_g (Nat.le_of_ble_eq_true rfl) (by simp [AV.bdd, AV.bdds]) fun hb ha => ex_in ?_
  have hi' : ∀ L, (h ++ L)[i]? = some (some (.row (bayC b v))) := fun L => getElem?_app_left hi
  have l1 := hR.slots.use.1
  have l2 := hR.days.use.1
  have l3 := hR.len
  simp only [List.length_map] at l1 l2
  simp only [go_sem, mf109, hi', l1, l2, ↓reduceIte, Nat.reduceEqDiff, Nat.reduceAdd, Nat.reduceSub, Nat.reduceMul, Nat.reduceLT, Nat.reduceLeDiff, Int.reduceLE, Int.reduceLT, Int.reduceAdd, Int.reduceSub, Int.reduceMul, Int.reduceEq, Int.reduceBEq, Int.reduceBNe, Int.reduceNeg, Int.reduceToNat, reduceCtorEq]
  refine ⟨(by unfold I64; omega), ?_⟩
  refine rvC_use (in_c _ _ _).v ?_
  simp only [go_sem, hi', l1, l2, ↓reduceIte, Nat.reduceEqDiff, Nat.reduceAdd, Nat.reduceSub, Nat.reduceMul, Nat.reduceLT, Nat.reduceLeDiff, Int.reduceLE, Int.reduceLT, Int.reduceAdd, Int.reduceSub, Int.reduceMul, Int.reduceEq, Int.reduceBEq, Int.reduceBNe, Int.reduceNeg, Int.reduceToNat, reduceCtorEq]
  refine ⟨fun e => ⟨(by unfold I64; omega), ?_⟩, fun e => by simp [defB, e]⟩
  refine rvC_use (span_c _ _ _).v ?_
  simp only [go_sem, ↓reduceIte, Nat.reduceEqDiff, Nat.reduceAdd, Nat.reduceSub, Nat.reduceMul, Nat.reduceLT, Nat.reduceLeDiff, Int.reduceLE, Int.reduceLT, Int.reduceAdd, Int.reduceSub, Int.reduceMul, Int.reduceEq, Int.reduceBEq, Int.reduceBNe, Int.reduceNeg, Int.reduceToNat, reduceCtorEq]
  simp [defB, e]

theorem bay_c (b : BayD) (v : BayV) (hR : BayR w0 h b v) : DCall Try.prog w0 64 [.agg (bayC b v)] h (.bool (bayB b)) h := by
  refine DCall_quiet hmix mf64_ok mf64_b mf64_g (Nat.le_of_ble_eq_true rfl) (by simp [AV.bdd, AV.bdds]) fun hb ha => ex_in ?_
  have l0 := hR.len
  obtain ⟨k1, kp, k2, k3, k4⟩ := hR.kinds.use
  obtain ⟨s1, sp, s2, s3, s4⟩ := hR.slots.use
  obtain ⟨d1, dp, d2, d3, d4⟩ := hR.days.use
  have n1 := hR.nights.use.1
  have f1 := hR.defs.use.1
  simp only [List.length_map] at k1 s1 d1 n1 f1 k2 s2 d2
  have o1 := hR.kinds.one.1
  have o2 := hR.slots.one.1
  have o3 := hR.days.one.1
  have o4 := hR.nights.one.1
  have o5 := hR.defs.one.1
  simp only [go_sem, mf64, o1, o2, o3, o4, o5, k1, s1, d1, n1, f1, ↓reduceIte, Nat.reduceEqDiff, Nat.reduceAdd, Nat.reduceSub, Nat.reduceMul, Nat.reduceLT, Nat.reduceLeDiff, Int.reduceLE, Int.reduceLT, Int.reduceAdd, Int.reduceSub, Int.reduceMul, Int.reduceEq, Int.reduceBEq, Int.reduceBNe, Int.reduceNeg, Int.reduceToNat, reduceCtorEq]
  refine rvC_use (in_c _ _ _).v ?_
  simp only [go_sem, k1, s1, d1, n1, f1, ↓reduceIte, Nat.reduceEqDiff, Nat.reduceAdd, Nat.reduceSub, Nat.reduceMul, Nat.reduceLT, Nat.reduceLeDiff, Int.reduceLE, Int.reduceLT, Int.reduceAdd, Int.reduceSub, Int.reduceMul, Int.reduceEq, Int.reduceBEq, Int.reduceBNe, Int.reduceNeg, Int.reduceToNat, reduceCtorEq]
  refine ⟨fun e1 => ?_, fun e => by simp [bayB, e]⟩
  refine rvC_use (in_c _ _ _).v ?_
  simp only [go_sem, k1, s1, d1, n1, f1, ↓reduceIte, Nat.reduceEqDiff, Nat.reduceAdd, Nat.reduceSub, Nat.reduceMul, Nat.reduceLT, Nat.reduceLeDiff, Int.reduceLE, Int.reduceLT, Int.reduceAdd, Int.reduceSub, Int.reduceMul, Int.reduceEq, Int.reduceBEq, Int.reduceBNe, Int.reduceNeg, Int.reduceToNat, reduceCtorEq]
  refine ⟨fun e2 => ?_, fun e => by simp [bayB, e]⟩
  refine rvC_use (in_c _ _ _).v ?_
  simp only [go_sem, k1, s1, d1, n1, f1, ↓reduceIte, Nat.reduceEqDiff, Nat.reduceAdd, Nat.reduceSub, Nat.reduceMul, Nat.reduceLT, Nat.reduceLeDiff, Int.reduceLE, Int.reduceLT, Int.reduceAdd, Int.reduceSub, Int.reduceMul, Int.reduceEq, Int.reduceBEq, Int.reduceBNe, Int.reduceNeg, Int.reduceToNat, reduceCtorEq]
  refine ⟨fun e3 => ?_, fun e => by simp [bayB, e]⟩
  refine ⟨fun e4 => ?_, fun e => ?_⟩
  · refine rvC_use (in_c _ _ _).v ?_
    simp only [go_sem, k1, s1, d1, n1, f1, ↓reduceIte, Nat.reduceEqDiff, Nat.reduceAdd, Nat.reduceSub, Nat.reduceMul, Nat.reduceLT, Nat.reduceLeDiff, Int.reduceLE, Int.reduceLT, Int.reduceAdd, Int.reduceSub, Int.reduceMul, Int.reduceEq, Int.reduceBEq, Int.reduceBNe, Int.reduceNeg, Int.reduceToNat, reduceCtorEq]
    refine ⟨fun e5 => ⟨fun e6 => ?_, fun e6 => ?_⟩, fun e => by simp [bayB, e]⟩
    · have : ¬ b.defs.length ≤ 8 := by omega
      simp [bayB, this]
    refine lp_all (fun j => [(1, .ptr (.own h.length 0)), (50, v.kv), (51, .int .i64 b.kinds.length), (52, .int .i64 j)]) (fun j => ∀ hj : j < b.kinds.length, kindB b.kinds[j] = true) b.kinds.length rfl (fun j hj hi ih => ?_) (fun ek => ?_)
    · refine lp_step hmix L64_0_g [1, 50, 51, 52] L64_0.eq_1 ?_
      have i1 := k2 j hj
      have i2 : ∀ L, rdn w0 (h ++ L) (kp.add (j * 8)) 8 = some b.kinds[j].c := fun L => rdn_app (k3 j _ (by simp [hj]))
      have i3 : (j : Int) < b.kinds.length := by omega
      simp only [go_sem, i1, i2, i3, ↓reduceIte, Nat.reduceEqDiff, Nat.reduceAdd, Nat.reduceSub, Nat.reduceMul, Nat.reduceLT, Nat.reduceLeDiff, Int.reduceLE, Int.reduceLT, Int.reduceAdd, Int.reduceSub, Int.reduceMul, Int.reduceEq, Int.reduceBEq, Int.reduceBNe, Int.reduceNeg, Int.reduceToNat, reduceCtorEq]
      refine rvC_use (kind_c b.kinds[j]).v ?_
      simp only [go_sem, ↓reduceIte, Nat.reduceEqDiff, Nat.reduceAdd, Nat.reduceSub, Nat.reduceMul, Nat.reduceLT, Nat.reduceLeDiff, Int.reduceLE, Int.reduceLT, Int.reduceAdd, Int.reduceSub, Int.reduceMul, Int.reduceEq, Int.reduceBEq, Int.reduceBNe, Int.reduceNeg, Int.reduceToNat, reduceCtorEq]
      refine ⟨fun e => ?_, fun e => ⟨(by unfold I64; omega), lp_drop 1 hb (by simp [HBs_some, HBs_none, HBs_nil, FB_cons, FB_nil, row_bdd, AV.bdds, AV.bdd, Pl.bdd, loop_bddT, hR.kinds.bdd, hR.slots.bdd, hR.days.bdd, hR.nights.bdd, hR.defs.bdd]) (by simp [HBs_some, HBs_none, HBs_nil, FB_cons, FB_nil, row_bdd, AV.bdds, AV.bdd, Pl.bdd, loop_bddT, hR.kinds.bdd]) (ih fun _ => e)⟩⟩
      have : b.kinds.all kindB = false := List.all_eq_false.2 ⟨_, List.getElem_mem hj, by simp [e]⟩
      simp [bayB, this]
    refine lp_step hmix L64_0_g [1, 50, 51, 52] L64_0.eq_1 ?_
    have x1 : ¬ (b.kinds.length : Int) < b.kinds.length := by omega
    simp only [go_sem, x1, s1, ↓reduceIte, Nat.reduceEqDiff, Nat.reduceAdd, Nat.reduceSub, Nat.reduceMul, Nat.reduceLT, Nat.reduceLeDiff, Int.reduceLE, Int.reduceLT, Int.reduceAdd, Int.reduceSub, Int.reduceMul, Int.reduceEq, Int.reduceBEq, Int.reduceBNe, Int.reduceNeg, Int.reduceToNat, reduceCtorEq]
    have ek : b.kinds.all kindB = true := List.all_eq_true.2 fun x hx => by
      obtain ⟨i, hi, rfl⟩ := List.getElem_of_mem hx
      exact ek i hi hi
    refine lp_all (fun j => [(1, .ptr (.own h.length 0)), (61, v.sv), (62, .int .i64 b.slots.length), (63, .int .i64 j)]) (fun j => ∀ hj : j < b.slots.length, partB b b.slots[j] = true) b.slots.length rfl (fun j hj hi ih => ?_) (fun es => ?_)
    · refine lp_step hmix L64_1_g [1, 61, 62, 63] L64_1.eq_1 ?_
      have i1 := s2 j hj
      have i2 : ∀ L, rdn w0 (h ++ L) (sp.add (j * 7)) 7 = some b.slots[j].c := fun L => rdn_app (s3 j _ (by simp [hj]))
      have i3 : (j : Int) < b.slots.length := by omega
      simp only [go_sem, i1, i2, i3, k1, ↓reduceIte, Nat.reduceEqDiff, Nat.reduceAdd, Nat.reduceSub, Nat.reduceMul, Nat.reduceLT, Nat.reduceLeDiff, Int.reduceLE, Int.reduceLT, Int.reduceAdd, Int.reduceSub, Int.reduceMul, Int.reduceEq, Int.reduceBEq, Int.reduceBNe, Int.reduceNeg, Int.reduceToNat, reduceCtorEq]
      refine ⟨(by unfold I64; omega), ?_⟩
      refine rvC_use (in_c _ _ _).v ?_
      simp only [go_sem, ↓reduceIte, Nat.reduceEqDiff, Nat.reduceAdd, Nat.reduceSub, Nat.reduceMul, Nat.reduceLT, Nat.reduceLeDiff, Int.reduceLE, Int.reduceLT, Int.reduceAdd, Int.reduceSub, Int.reduceMul, Int.reduceEq, Int.reduceBEq, Int.reduceBNe, Int.reduceNeg, Int.reduceToNat, reduceCtorEq]
      have no : partB b b.slots[j] = false → bayB b = false := fun e => by
        have : b.slots.all (partB b) = false := List.all_eq_false.2 ⟨_, List.getElem_mem hj, by simp [e]⟩
        simp [bayB, this]
      refine ⟨fun e => ?_, fun e => by rw [no (by simp [partB, e])]⟩
      refine rvC_use (worn_c b.slots[j].wear).v ?_
      simp only [go_sem, ↓reduceIte, Nat.reduceEqDiff, Nat.reduceAdd, Nat.reduceSub, Nat.reduceMul, Nat.reduceLT, Nat.reduceLeDiff, Int.reduceLE, Int.reduceLT, Int.reduceAdd, Int.reduceSub, Int.reduceMul, Int.reduceEq, Int.reduceBEq, Int.reduceBNe, Int.reduceNeg, Int.reduceToNat, reduceCtorEq]
      refine ⟨fun e' => by rw [no (by simp [partB, e'])], fun e' => ⟨(by unfold I64; omega), lp_drop 1 hb (by simp [HBs_some, HBs_none, HBs_nil, FB_cons, FB_nil, row_bdd, AV.bdds, AV.bdd, Pl.bdd, loop_bddT, hR.kinds.bdd, hR.slots.bdd, hR.days.bdd, hR.nights.bdd, hR.defs.bdd]) (by simp [HBs_some, HBs_none, HBs_nil, FB_cons, FB_nil, row_bdd, AV.bdds, AV.bdd, Pl.bdd, loop_bddT, hR.slots.bdd]) (ih fun _ => by simp [partB, e, e'])⟩⟩
    refine lp_step hmix L64_1_g [1, 61, 62, 63] L64_1.eq_1 ?_
    have x2 : ¬ (b.slots.length : Int) < b.slots.length := by omega
    simp only [go_sem, x2, d1, ↓reduceIte, Nat.reduceEqDiff, Nat.reduceAdd, Nat.reduceSub, Nat.reduceMul, Nat.reduceLT, Nat.reduceLeDiff, Int.reduceLE, Int.reduceLT, Int.reduceAdd, Int.reduceSub, Int.reduceMul, Int.reduceEq, Int.reduceBEq, Int.reduceBNe, Int.reduceNeg, Int.reduceToNat, reduceCtorEq]
    have es : b.slots.all (partB b) = true := List.all_eq_true.2 fun x hx => by
      obtain ⟨i, hi, rfl⟩ := List.getElem_of_mem hx
      exact es i hi hi
    refine lp_all (fun j => [(1, .ptr (.own h.length 0)), (83, v.dv), (84, .int .i64 b.days.length), (85, .int .i64 j)]) (fun j => ∀ hj : j < b.days.length, dayB b.days[j] = true) b.days.length rfl (fun j hj hi ih => ?_) (fun ed => ?_)
    · refine lp_step hmix L64_2_g [1, 83, 84, 85] L64_2.eq_1 ?_
      have i1 := d2 j hj
      have i2 : ∀ L, rdn w0 (h ++ L) (dp.add (j * 7)) 7 = some b.days[j].c := fun L => rdn_app (d3 j _ (by simp [hj]))
      have i3 : (j : Int) < b.days.length := by omega
      simp only [go_sem, i1, i2, i3, ↓reduceIte, Nat.reduceEqDiff, Nat.reduceAdd, Nat.reduceSub, Nat.reduceMul, Nat.reduceLT, Nat.reduceLeDiff, Int.reduceLE, Int.reduceLT, Int.reduceAdd, Int.reduceSub, Int.reduceMul, Int.reduceEq, Int.reduceBEq, Int.reduceBNe, Int.reduceNeg, Int.reduceToNat, reduceCtorEq]
      refine rvC_use (day_c b.days[j]).v ?_
      simp only [go_sem, ↓reduceIte, Nat.reduceEqDiff, Nat.reduceAdd, Nat.reduceSub, Nat.reduceMul, Nat.reduceLT, Nat.reduceLeDiff, Int.reduceLE, Int.reduceLT, Int.reduceAdd, Int.reduceSub, Int.reduceMul, Int.reduceEq, Int.reduceBEq, Int.reduceBNe, Int.reduceNeg, Int.reduceToNat, reduceCtorEq]
      refine ⟨fun e => ?_, fun e => ⟨(by unfold I64; omega), lp_drop 1 hb (by simp [HBs_some, HBs_none, HBs_nil, FB_cons, FB_nil, row_bdd, AV.bdds, AV.bdd, Pl.bdd, loop_bddT, hR.kinds.bdd, hR.slots.bdd, hR.days.bdd, hR.nights.bdd, hR.defs.bdd]) (by simp [HBs_some, HBs_none, HBs_nil, FB_cons, FB_nil, row_bdd, AV.bdds, AV.bdd, Pl.bdd, loop_bddT, hR.days.bdd]) (ih fun _ => e)⟩⟩
      have : b.days.all dayB = false := List.all_eq_false.2 ⟨_, List.getElem_mem hj, by simp [e]⟩
      simp [bayB, this]
    refine lp_step hmix L64_2_g [1, 83, 84, 85] L64_2.eq_1 ?_
    have x3 : ¬ (b.days.length : Int) < b.days.length := by omega
    simp only [go_sem, x3, ↓reduceIte, Nat.reduceEqDiff, Nat.reduceAdd, Nat.reduceSub, Nat.reduceMul, Nat.reduceLT, Nat.reduceLeDiff, Int.reduceLE, Int.reduceLT, Int.reduceAdd, Int.reduceSub, Int.reduceMul, Int.reduceEq, Int.reduceBEq, Int.reduceBNe, Int.reduceNeg, Int.reduceToNat, reduceCtorEq]
    have ed : b.days.all dayB = true := List.all_eq_true.2 fun x hx => by
      obtain ⟨i, hi, rfl⟩ := List.getElem_of_mem hx
      exact ed i hi hi
    refine rvC_use (containsFuncD_c b.defs v.fv _ (fun d => !defB b d) hR.defs.app (by omega) fun d _ => (bay1_c (i := h.length) b v d (by simp [bayC]) hR.app.app).vc).v ?_
    simp only [go_sem, ↓reduceIte, Nat.reduceEqDiff, Nat.reduceAdd, Nat.reduceSub, Nat.reduceMul, Nat.reduceLT, Nat.reduceLeDiff, Int.reduceLE, Int.reduceLT, Int.reduceAdd, Int.reduceSub, Int.reduceMul, Int.reduceEq, Int.reduceBEq, Int.reduceBNe, Int.reduceNeg, Int.reduceToNat, reduceCtorEq]
    have e6' : b.defs.length ≤ 8 := by omega
    have e4' : (b.nights.length == b.days.length) = true := by simp; omega
    simp [bayB, e1, e2, e3, e4', e5, e6', ek, es, ed, List.all_eq_not_any_not]
  · have : (b.nights.length == b.days.length) = false := by simp; omega
    simp [bayB, this]
end Go.Proofs.Ab

namespace Go.Proofs.Ab
open Go Go.Proofs
variable {w0 : World} {h : Heap}
attribute [local irreducible] ACall ACallV AYield DCall DCallV rvC rdC lp rg dr ex un rv rd'

theorem high_c (s : Span) : DCall Try.prog w0 93 [.agg s.c] h (.int .i64 s.high) h := by
  refine DCall_quiet hmix mf93_ok mf93_b mf93_g (Nat.le_of_ble_eq_true rfl) (by simp [AV.bdd, AV.bdds]) fun hb ha => ex_in ?_
  simp only [go_sem, mf93, ↓reduceIte, Nat.reduceEqDiff, Nat.reduceAdd, Nat.reduceSub, Nat.reduceMul, Nat.reduceLT, Nat.reduceLeDiff, Int.reduceLE, Int.reduceLT, Int.reduceAdd, Int.reduceSub, Int.reduceMul, Int.reduceEq, Int.reduceBEq, Int.reduceBNe, Int.reduceNeg, Int.reduceToNat, reduceCtorEq]
theorem low_c (s : Span) : DCall Try.prog w0 94 [.agg s.c] h (.int .i64 s.low) h := by
  refine DCall_quiet hmix mf94_ok mf94_b mf94_g (Nat.le_of_ble_eq_true rfl) (by simp [AV.bdd, AV.bdds]) fun hb ha => ex_in ?_
  simp only [go_sem, mf94, ↓reduceIte, Nat.reduceEqDiff, Nat.reduceAdd, Nat.reduceSub, Nat.reduceMul, Nat.reduceLT, Nat.reduceLeDiff, Int.reduceLE, Int.reduceLT, Int.reduceAdd, Int.reduceSub, Int.reduceMul, Int.reduceEq, Int.reduceBEq, Int.reduceBNe, Int.reduceNeg, Int.reduceToNat, reduceCtorEq]

def withinB (en : Span → Int) (k : KindD) (w : WearD) : Bool := decide (en w.minutes ≤ k.minutes) && decide (en w.cycles ≤ k.cycles) && decide (en w.rust ≤ k.rust)

theorem within_c (k : KindD) (w : WearD) (f : AV) (en : Span → Int) (hf : ∀ (s : Span) (L : Heap), DCallV Try.prog w0 f [.agg s.c] (h ++ L) (.int .i64 (en s)) (h ++ L)) :
    DCall Try.prog w0 120 [.agg k.c, .agg w.c, f] h (.bool (withinB en k w)) h := by
  refine DCall_quiet hmix mf120_ok mf120_b mf120_g (Nat.le_of_ble_eq_true rfl) (by simp [AV.bdd, AV.bdds]) fun hb ha => ex_in ?_
  simp only [go_sem, mf120, ↓reduceIte, Nat.reduceEqDiff, Nat.reduceAdd, Nat.reduceSub, Nat.reduceMul, Nat.reduceLT, Nat.reduceLeDiff, Int.reduceLE, Int.reduceLT, Int.reduceAdd, Int.reduceSub, Int.reduceMul, Int.reduceEq, Int.reduceBEq, Int.reduceBNe, Int.reduceNeg, Int.reduceToNat, reduceCtorEq]
  refine rdC_q (hf w.minutes _) ?_
  simp only [go_sem, ↓reduceIte, Nat.reduceEqDiff, Nat.reduceAdd, Nat.reduceSub, Nat.reduceMul, Nat.reduceLT, Nat.reduceLeDiff, Int.reduceLE, Int.reduceLT, Int.reduceAdd, Int.reduceSub, Int.reduceMul, Int.reduceEq, Int.reduceBEq, Int.reduceBNe, Int.reduceNeg, Int.reduceToNat, reduceCtorEq]
  refine ⟨fun e1 => ?_, fun e => by simp [withinB]; omega⟩
  refine rdC_q (hf w.cycles _) ?_
  simp only [go_sem, ↓reduceIte, Nat.reduceEqDiff, Nat.reduceAdd, Nat.reduceSub, Nat.reduceMul, Nat.reduceLT, Nat.reduceLeDiff, Int.reduceLE, Int.reduceLT, Int.reduceAdd, Int.reduceSub, Int.reduceMul, Int.reduceEq, Int.reduceBEq, Int.reduceBNe, Int.reduceNeg, Int.reduceToNat, reduceCtorEq]
  refine ⟨fun e2 => ?_, fun e => by simp [withinB]; omega⟩
  refine rdC_q (hf w.rust _) ?_
  simp only [go_sem, ↓reduceIte, Nat.reduceEqDiff, Nat.reduceAdd, Nat.reduceSub, Nat.reduceMul, Nat.reduceLT, Nat.reduceLeDiff, Int.reduceLE, Int.reduceLT, Int.reduceAdd, Int.reduceSub, Int.reduceMul, Int.reduceEq, Int.reduceBEq, Int.reduceBNe, Int.reduceNeg, Int.reduceToNat, reduceCtorEq]
  simp [withinB, e1, e2]

def beginW (b : BayD) (s : Nat) (night : Int) : WearD :=
  if night < 0 then match b.slots[s]? with
    | some p => p.wear
    | none => ⟨⟨0, 0⟩, ⟨0, 0⟩, ⟨0, 0⟩⟩
  else ⟨⟨0, 0⟩, ⟨0, 0⟩, ⟨0, 0⟩⟩

theorem begin_c (b : BayD) (v : BayV) (s : Nat) (night : Int) {i : Nat} (hi : h[i]? = some (some (.row (bayC b v)))) (hR : BayR w0 h b v) (hs : s < b.slots.length) :
    DCall Try.prog w0 122 [.ptr (.own i 0), .int .i64 s, .int .i64 night] h (.agg (beginW b s night).c) h := by
  refine DCall_quiet hmix mf122_ok mf122_b mf122_g (Nat.le_of_ble_eq_true rfl) (by simp [AV.bdd, AV.bdds]) fun hb ha => ex_in ?_
  have hi' : ∀ L, (h ++ L)[i]? = some (some (.row (bayC b v))) := fun L => getElem?_app_left hi
  obtain ⟨s1, sp, s2, s3, s4⟩ := hR.slots.use
  simp only [List.length_map] at s1 s2
  have i1 := s2 s hs
  have i2 : ∀ L, rdn w0 (h ++ L) (sp.add (s * 7)) 7 = some b.slots[s].c := fun L => rdn_app (s3 s _ (by simp [hs]))
  have i3 : ∀ L, rdn w0 (h ++ L) ((sp.add (s * 7)).add 1) 6 = some (WearD.c b.slots[s].wear) := fun L => (rdn_get (i2 L)).2 1 6 (by omega)
  simp only [go_sem, mf122, hi', i1, i3, ↓reduceIte, Nat.reduceEqDiff, Nat.reduceAdd, Nat.reduceSub, Nat.reduceMul, Nat.reduceLT, Nat.reduceLeDiff, Int.reduceLE, Int.reduceLT, Int.reduceAdd, Int.reduceSub, Int.reduceMul, Int.reduceEq, Int.reduceBEq, Int.reduceBNe, Int.reduceNeg, Int.reduceToNat, reduceCtorEq]
  refine ⟨fun e => ?_, fun e => ?_⟩
  · simp [beginW, e, hs]
  · have : ¬ night < 0 := by omega
    simp [beginW, this]

theorem days_c (i : Nat) (hi : i < h.length) (s night : Int) : DCall Try.prog w0 95 [.ptr (.own i 0), .int .i64 s, .int .i64 night] h
    (.fn (.func 121) [] [.ptr (.own h.length 0), .ptr (.own (h.length + 1) 0), .ptr (.own (h.length + 2) 0)]) (h ++ [some (.row [.ptr (.own i 0)]), some (.row [.int .i64 s]), some (.row [.int .i64 night])]) := by
  refine DCall_new hmix mf95_ok mf95_b mf95_g (Nat.le_of_ble_eq_true rfl) (by simp [HBs_some, HBs_none, HBs_nil, FB_cons, FB_nil, row_bdd, AV.bdds, AV.bdd, Pl.bdd, loop_bddT]) (fun _ => by simp [HBs_some, HBs_none, HBs_nil, FB_cons, FB_nil, row_bdd, AV.bdds, AV.bdd, Pl.bdd, loop_bddT]; omega) fun hb ha => ex_in ?_
  simp only [go_sem, mf95, ↓reduceIte, Nat.reduceEqDiff, Nat.reduceAdd, Nat.reduceSub, Nat.reduceMul, Nat.reduceLT, Nat.reduceLeDiff, Int.reduceLE, Int.reduceLT, Int.reduceAdd, Int.reduceSub, Int.reduceMul, Int.reduceEq, Int.reduceBEq, Int.reduceBNe, Int.reduceNeg, Int.reduceToNat, reduceCtorEq]

def daysL (k : KindD) : List UseD → Nat → WearD → List (Nat × WearD)
  | [], _, _ => []
  | u :: us, t, w => (t, growS k w u) :: daysL k us (t + 1) (growS k w u)

theorem mul_mono {a b c d : Int} (h1 : 0 ≤ a) (h2 : a ≤ b) (h3 : 0 ≤ c) (h4 : c ≤ d) : a * c ≤ b * d := Int.mul_le_mul h2 h4 h3 (Int.le_trans h1 h2)

theorem rust_spec {k : KindD} {u : UseD} (hk : kindB k = true) (hu : dayB u = true) : 0 ≤ (rustOf k u).low ∧ (rustOf k u).low ≤ (rustOf k u).high ∧ (rustOf k u).high ≤ 2010000 := by
  have bk := kindB_spec hk
  have bu := dayB_spec hu
  have m1 := mul_bd (a := k.salt.low) (A := 10000) (b := u.salt.low) (B := 200) (by omega) (by omega) (by omega) (by omega)
  have m2 := mul_bd (a := k.salt.high) (A := 10000) (b := u.salt.high) (B := 200) (by omega) (by omega) (by omega) (by omega)
  have m5 := mul_mono (a := k.salt.low) (b := k.salt.high) (c := u.salt.low) (d := u.salt.high) (by omega) (by omega) (by omega) (by omega)
  have m3 := mul_bd (a := k.salt.low * u.salt.low + k.stand.low) (A := 2010000) (b := k.wash) (B := 1000) (by omega) (by omega) (by omega) (by omega)
  have m4 := mul_bd (a := k.salt.high * u.salt.high + k.stand.high) (A := 2010000) (b := k.wash) (B := 1000) (by omega) (by omega) (by omega) (by omega)
  have m6 := mul_mono (a := k.salt.low * u.salt.low + k.stand.low) (b := k.salt.high * u.salt.high + k.stand.high) (c := k.wash) (d := k.wash) (by omega) (by omega) (by omega) (by omega)
  simp only [rustOf]
  split
  · simp only; omega
  · simp only; omega

theorem grow_worn {k : KindD} {w : WearD} {u : UseD} (hk : kindB k = true) (hw : wornB w = true) (hu : dayB u = true) : wornB (growS k w u) = true := by
  have bw := wornB_spec hw
  have bu := dayB_spec hu
  have br := rust_spec hk hu
  simp only [wornB, spanB, growS, Bool.and_eq_true, decide_eq_true_eq, sumS, plus]
  refine ⟨⟨⟨?_, ?_, ?_⟩, ?_, ?_, ?_⟩, ?_, ?_, ?_⟩ <;> (refine decide_eq_true ?_; omega)

def Iter (P : Program) (w0 : World) (q : Nat) (Inv : Heap → Prop) (K : Heap → Prop) : List (Nat × WearD) → Heap → Prop
  | [], h => K h
  | x :: r, h => AYield P w0 q [.int .i64 x.1, .agg x.2.c] (h ++ [some (.row x.2.c)]) fun v h' => ∃ h2, h' = h2 ++ [some (.row x.2.c)] ∧ h2.length = h.length ∧ Inv h2 ∧
      ((v = .bool true ∧ Iter P w0 q Inv K r h2) ∨ (v = .bool false ∧ K h2))

structure IterInv (w0 : World) (b : BayD) (v : BayV) (s : Nat) (night : Int) (li i1 i2 i3 : Nat) (h : Heap) : Prop where
  b1 : h[i1]? = some (some (.row [.ptr (.own li 0)]))
  b2 : h[i2]? = some (some (.row [.int .i64 s]))
  b3 : h[i3]? = some (some (.row [.int .i64 night]))
  bl : h[li]? = some (some (.row (bayC b v)))
  bay : BayR w0 h b v
  hb : HB h

theorem get_lt {α : Type} {l : List α} {i : Nat} {x : α} (h : l[i]? = some x) : i < l.length := by
  rcases Nat.lt_or_ge i l.length with a | a
  · exact a
  · rw [List.getElem?_eq_none a] at h; cases h

theorem bayB_spec {b : BayD} (h : bayB b = true) : 1 ≤ b.kinds.length ∧ b.kinds.length ≤ 8 ∧ 1 ≤ b.slots.length ∧ b.slots.length ≤ 5 ∧ 1 ≤ b.days.length ∧ b.days.length ≤ 30 ∧ b.nights.length = b.days.length ∧ 1 ≤ b.most ∧ b.most ≤ 5 ∧ b.defs.length ≤ 8 ∧
    (∀ x ∈ b.kinds, kindB x = true) ∧ (∀ x ∈ b.slots, 0 ≤ x.kind ∧ x.kind ≤ b.kinds.length - 1 ∧ wornB x.wear = true) ∧ (∀ x ∈ b.days, dayB x = true) ∧ (∀ x ∈ b.defs, defB b x = true) := by
  simp only [bayB, inB, partB, Bool.and_eq_true, decide_eq_true_eq, List.all_eq_true, beq_iff_eq] at h
  obtain ⟨⟨⟨⟨⟨⟨⟨⟨⟨h1, h2⟩, h3⟩, h4⟩, h5⟩, h6⟩, h7⟩, h8⟩, h9⟩, h10⟩ := h
  exact ⟨by omega, by omega, by omega, by omega, by omega, by omega, h4, by omega, by omega, h6, h7, fun x hx => by have := h8 x hx; exact ⟨this.1.1, this.1.2, this.2⟩, h9, h10⟩

def kindOf (b : BayD) (s : Nat) : KindD := match b.slots[s]? with
  | some p => b.kinds.getD p.kind.toNat ⟨0, 0, 0, ⟨0, 0⟩, ⟨0, 0⟩, 0⟩
  | none => ⟨0, 0, 0, ⟨0, 0⟩, ⟨0, 0⟩, 0⟩

theorem iter_c (b : BayD) (v : BayV) (s : Nat) (night : Int) (q li i1 i2 i3 : Nat) (hB : bayB b = true) (hs : s < b.slots.length) (hn : -1 ≤ night) (hn2 : night < b.days.length) (K : Heap → Prop)
    (hI : IterInv w0 b v s night li i1 i2 i3 h) (hq : q < h.length)
    (hK : Iter Try.prog w0 q (IterInv w0 b v s night li i1 i2 i3) K (daysL (kindOf b s) (b.days.drop (night + 1).toNat) (night + 1).toNat (beginW b s night)) h) :
    ACall Try.prog w0 121 [.yld q, .ptr (.own i1 0), .ptr (.own i2 0), .ptr (.own i3 0)] h fun _ h' => K h' := by
  refine ACall_sx' hmix mf121_ok mf121_b mf121_g (Nat.le_of_ble_eq_true rfl) fun hb ha => ex_in ?_
  have bs := bayB_spec hB
  have p1 : ∀ L, (h ++ L)[i1]? = some (some (.row [.ptr (.own li 0)])) := fun L => getElem?_app_left hI.b1
  have p2 : ∀ L, (h ++ L)[i2]? = some (some (.row [.int .i64 s])) := fun L => getElem?_app_left hI.b2
  have p3 : ∀ L, (h ++ L)[i3]? = some (some (.row [.int .i64 night])) := fun L => getElem?_app_left hI.b3
  simp only [go_sem, mf121, p1, p2, p3, ↓reduceIte, Nat.reduceEqDiff, Nat.reduceAdd, Nat.reduceSub, Nat.reduceMul, Nat.reduceLT, Nat.reduceLeDiff, Int.reduceLE, Int.reduceLT, Int.reduceAdd, Int.reduceSub, Int.reduceMul, Int.reduceEq, Int.reduceBEq, Int.reduceBNe, Int.reduceNeg, Int.reduceToNat, reduceCtorEq]
  refine rvC_use (begin_c b v s night (getElem?_app_left hI.bl) hI.bay.app hs).v ?_
  simp only [go_sem, p1, p2, p3, ↓reduceIte, Nat.reduceEqDiff, Nat.reduceAdd, Nat.reduceSub, Nat.reduceMul, Nat.reduceLT, Nat.reduceLeDiff, Int.reduceLE, Int.reduceLT, Int.reduceAdd, Int.reduceSub, Int.reduceMul, Int.reduceEq, Int.reduceBEq, Int.reduceBNe, Int.reduceNeg, Int.reduceToNat, reduceCtorEq]
  refine ⟨(by unfold I64; omega), ?_⟩
  obtain ⟨n0, hn0⟩ : ∃ n0 : Nat, night + 1 = n0 := ⟨(night + 1).toNat, by omega⟩
  rw [hn0, Int.toNat_natCast] at hK
  rw [hn0]
  obtain ⟨d1, dp, d2, d3, d4⟩ := hI.bay.days.use
  simp only [List.length_map] at d1
  have hsl := bs.2.2.2.2.2.2.2.2.2.2.2.1 b.slots[s] (List.getElem_mem hs)
  have hkl : b.slots[s].kind.toNat < b.kinds.length := by omega
  have hkind : kindOf b s = b.kinds[b.slots[s].kind.toNat] := by simp [kindOf, hs, hkl]
  have hkB : kindB (kindOf b s) = true := by rw [hkind]; exact bs.2.2.2.2.2.2.2.2.2.2.1 _ (List.getElem_mem hkl)
  have loop : ∀ (m t : Nat) (w : WearD) (h2 : Heap), t + m = b.days.length → wornB w = true → h2.length = h.length → IterInv w0 b v s night li i1 i2 i3 h2 →
      Iter Try.prog w0 q (IterInv w0 b v s night li i1 i2 i3) K (daysL (kindOf b s) (b.days.drop t) t w) h2 →
      lp Try.prog w0 none 54 h.length (resK w0 [] fun v h' => ∃ h1 k, h' = h1 ++ k ∧ h.length ≤ h1.length ∧ HB h1 ∧ v.bdd h1.length ∧ K h1) L121_0 [It.inBlk 0]
        [(0, .yld q), (1, .ptr (.own i1 0)), (2, .ptr (.own i2 0)), (5, .ptr (.own h.length 0)), (6, .int .i64 t)] (h2 ++ [some (.row w.c)]) := by
    intro m
    induction m with
    | zero =>
      intro t w h2 ht hw hl hI2 hK2
      obtain rfl : t = b.days.length := by omega
      have q1 : ∀ L, (h2 ++ L)[i1]? = some (some (.row [.ptr (.own li 0)])) := fun L => getElem?_app_left hI2.b1
      have ql : ∀ L, (h2 ++ L)[li]? = some (some (.row (bayC b v))) := fun L => getElem?_app_left hI2.bl
      refine lp_step hmix L121_0_g [0, 1, 2, 5, 6] L121_0.eq_1 ?_
      rw [← hl]
      have e1 : ¬ (b.days.length : Int) < b.days.length := by omega
      simp only [go_sem, q1, ql, d1, e1, ↓reduceIte, Nat.reduceEqDiff, Nat.reduceAdd, Nat.reduceSub, Nat.reduceMul, Nat.reduceLT, Nat.reduceLeDiff, Int.reduceLE, Int.reduceLT, Int.reduceAdd, Int.reduceSub, Int.reduceMul, Int.reduceEq, Int.reduceBEq, Int.reduceBNe, Int.reduceNeg, Int.reduceToNat, reduceCtorEq]
      rw [List.drop_length] at hK2
      exact ⟨h2, _, rfl, Nat.le_refl _, hI2.hb, trivial, hK2⟩
    | succ m ih =>
      intro t w h2 ht hw hl hI2 hK2
      have htl : t < b.days.length := by omega
      have q1 : ∀ L, (h2 ++ L)[i1]? = some (some (.row [.ptr (.own li 0)])) := fun L => getElem?_app_left hI2.b1
      have q2 : ∀ L, (h2 ++ L)[i2]? = some (some (.row [.int .i64 s])) := fun L => getElem?_app_left hI2.b2
      have ql : ∀ L, (h2 ++ L)[li]? = some (some (.row (bayC b v))) := fun L => getElem?_app_left hI2.bl
      refine lp_step hmix L121_0_g [0, 1, 2, 5, 6] L121_0.eq_1 ?_
      rw [← hl]
      have e1 : (t : Int) < b.days.length := by omega
      obtain ⟨_, dp, d2, d3, d4⟩ := hI2.bay.days.use
      obtain ⟨_, sp, s2, s3, s4⟩ := hI2.bay.slots.use
      obtain ⟨_, kp, k2, k3, k4⟩ := hI2.bay.kinds.use
      simp only [List.length_map] at d2 s2 k2
      obtain ⟨kn, hkn⟩ : ∃ kn : Nat, b.slots[s].kind = kn := ⟨b.slots[s].kind.toNat, by omega⟩
      have hkn' : b.slots[s].kind.toNat = kn := by omega
      have a1 := s2 s hs
      have a2 : ∀ L, rd w0 (h2 ++ L) ((sp.add (s * 7)).add 0) = some (.int .i64 (kn : Int)) := fun L => rd_get (rdn_app (s3 s _ (by simp [hs]; rfl))) (by simp [PartD.c, hkn])
      have a3 := k2 kn (by omega)
      have a4 : ∀ L, rdn w0 (h2 ++ L) (kp.add (kn * 8)) 8 = some (kindOf b s).c := fun L => rdn_app (k3 kn _ (by rw [hkind]; simp [hkn', show kn < b.kinds.length by omega]))
      have a5 := d2 t htl
      have a6 : ∀ L, rdn w0 (h2 ++ L) (dp.add (t * 7)) 7 = some b.days[t].c := fun L => rdn_app (d3 t _ (by simp [htl]))
      have hday := bs.2.2.2.2.2.2.2.2.2.2.2.2.1 b.days[t] (List.getElem_mem htl)
      rw [List.drop_eq_getElem_cons htl] at hK2
      obtain ⟨hK3⟩ : Nonempty (PLift (Iter Try.prog w0 q (IterInv w0 b v s night li i1 i2 i3) K (daysL (kindOf b s) (b.days[t] :: b.days.drop (t + 1)) t w) h2)) := ⟨⟨hK2⟩⟩
      have hK3 := hK3.down
      simp only [daysL, Iter] at hK3
      simp only [go_sem, q1, q2, ql, d1, e1, a1, a2, a3, a4, a5, a6, ↓reduceIte, Nat.reduceEqDiff, Nat.reduceAdd, Nat.reduceSub, Nat.reduceMul, Nat.reduceLT, Nat.reduceLeDiff, Int.reduceLE, Int.reduceLT, Int.reduceAdd, Int.reduceSub, Int.reduceMul, Int.reduceEq, Int.reduceBEq, Int.reduceBNe, Int.reduceNeg, Int.reduceToNat, reduceCtorEq]
      refine rdC_q (grow_c (kindOf b s) w b.days[t] hkB hw hday).v ?_
      simp only [go_sem, q1, q2, ql, ↓reduceIte, Nat.reduceEqDiff, Nat.reduceAdd, Nat.reduceSub, Nat.reduceMul, Nat.reduceLT, Nat.reduceLeDiff, Int.reduceLE, Int.reduceLT, Int.reduceAdd, Int.reduceSub, Int.reduceMul, Int.reduceEq, Int.reduceBEq, Int.reduceBNe, Int.reduceNeg, Int.reduceToNat, reduceCtorEq]
      refine rvC_post (ACallV_y hK3) ?_
      rintro v' h' ⟨h3, rfl, hl3, hI3, ⟨rfl, hk⟩ | ⟨rfl, hk⟩⟩
      · simp only [go_sem, ↓reduceIte, Nat.reduceEqDiff, Nat.reduceAdd, Nat.reduceSub, Nat.reduceMul, Nat.reduceLT, Nat.reduceLeDiff, Int.reduceLE, Int.reduceLT, Int.reduceAdd, Int.reduceSub, Int.reduceMul, Int.reduceEq, Int.reduceBEq, Int.reduceBNe, Int.reduceNeg, Int.reduceToNat, reduceCtorEq]
        refine ⟨(by unfold I64; omega), ?_⟩
        rw [hl]
        exact ih (t + 1) _ h3 (by omega) (grow_worn hkB hw hday) (by omega) hI3 hk
      · simp only [go_sem, ↓reduceIte, Nat.reduceEqDiff, Nat.reduceAdd, Nat.reduceSub, Nat.reduceMul, Nat.reduceLT, Nat.reduceLeDiff, Int.reduceLE, Int.reduceLT, Int.reduceAdd, Int.reduceSub, Int.reduceMul, Int.reduceEq, Int.reduceBEq, Int.reduceBNe, Int.reduceNeg, Int.reduceToNat, reduceCtorEq]
        exact ⟨h3, _, rfl, by omega, hI3.hb, trivial, hk⟩
  have hw0 : wornB (beginW b s night) = true := by
    simp only [beginW]
    split
    · simp only [List.getElem?_eq_getElem hs]; exact hsl.2.2
    · rfl
  exact loop (b.days.length - n0) n0 _ h (by omega) hw0 rfl hI hK
end Go.Proofs.Ab

namespace Go.Proofs.Ab
open Go Go.Proofs
variable {w0 : World} {h : Heap}
attribute [local irreducible] ACall ACallV AYield DCall DCallV rvC rdC lp rg dr ex un rv rd'

def lastL (en : Span → Int) (k : KindD) : List (Nat × WearD) → Int → Int
  | [], last => last
  | x :: r, last => if withinB en k x.2 then lastL en k r x.1 else last
def lastsD (en : Span → Int) (b : BayD) (s : Nat) (night : Int) : Int :=
  lastL en (kindOf b s) (daysL (kindOf b s) (b.days.drop (night + 1).toNat) (night + 1).toNat (beginW b s night)) night

theorem lasts_c (b : BayD) (v : BayV) (s : Nat) (night : Int) (f : AV) (en : Span → Int) {i : Nat} (hi : h[i]? = some (some (.row (bayC b v)))) (hR : BayR w0 h b v) (hB : bayB b = true) (hs : s < b.slots.length) (hn : -1 ≤ night) (hn2 : night < b.days.length)
    (fo : one f = true ∧ cellsOf f = some [f]) (hf : ∀ (s : Span) (k : Heap), DCallV Try.prog w0 f [.agg s.c] k (.int .i64 (en s)) k) :
    DCall Try.prog w0 92 [.ptr (.own i 0), .int .i64 s, .int .i64 night, f] h (.int .i64 (lastsD en b s night)) h := by
  refine DCall_quiet hmix mf92_ok mf92_b mf92_g (Nat.le_of_ble_eq_true rfl) (by simp [AV.bdd, AV.bdds]) fun hb ha => ex_in ?_
  have hfb : f.bdd h.length := by simp only [AV.bdds] at ha; exact ha.2.2.2.1
  have hil := get_lt hi
  have bs := bayB_spec hB
  simp only [go_sem, mf92, fo.2, ↓reduceIte, Nat.reduceEqDiff, Nat.reduceAdd, Nat.reduceSub, Nat.reduceMul, Nat.reduceLT, Nat.reduceLeDiff, Int.reduceLE, Int.reduceLT, Int.reduceAdd, Int.reduceSub, Int.reduceMul, Int.reduceEq, Int.reduceBEq, Int.reduceBNe, Int.reduceNeg, Int.reduceToNat, reduceCtorEq]
  refine rvC_use (days_c i (by simp; omega) s night).v ?_
  simp only [go_sem, ↓reduceIte, Nat.reduceEqDiff, Nat.reduceAdd, Nat.reduceSub, Nat.reduceMul, Nat.reduceLT, Nat.reduceLeDiff, Int.reduceLE, Int.reduceLT, Int.reduceAdd, Int.reduceSub, Int.reduceMul, Int.reduceEq, Int.reduceBEq, Int.reduceBNe, Int.reduceNeg, Int.reduceToNat, reduceCtorEq]
  refine rg_keep [4, 5, 7, 9, 16] ?_
  simp only [go_sem, ↓reduceIte, Nat.reduceEqDiff, Nat.reduceAdd, Nat.reduceSub, Nat.reduceMul, Nat.reduceLT, Nat.reduceLeDiff, Int.reduceLE, Int.reduceLT, Int.reduceAdd, Int.reduceSub, Int.reduceMul, Int.reduceEq, Int.reduceBEq, Int.reduceBNe, Int.reduceNeg, Int.reduceToNat, reduceCtorEq]
  refine rg_use (fid := 121) (first := []) rfl (.inl rfl) fun hca hcb hps => ?_
  simp only [go_sem, ↓reduceIte, Nat.reduceEqDiff, Nat.reduceAdd, Nat.reduceSub, Nat.reduceMul, Nat.reduceLT, Nat.reduceLeDiff, Int.reduceLE, Int.reduceLT, Int.reduceAdd, Int.reduceSub, Int.reduceMul, Int.reduceEq, Int.reduceBEq, Int.reduceBNe, Int.reduceNeg, Int.reduceToNat, reduceCtorEq]
  obtain ⟨Hf, hHf⟩ : ∃ Hf : Int → LoopState → Option Code → Heap, Hf = fun last st pd => h ++ [some (Blk.row [AV.ptr (Pl.own i 0)]), some (Blk.row [AV.int IntKind.i64 ↑s]), some (Blk.row [f]), some (Blk.row [AV.int IntKind.i64 last]), some (Blk.row [AV.ptr (Pl.own i 0)]),
    some (Blk.row [AV.int IntKind.i64 ↑s]), some (Blk.row [AV.int IntKind.i64 night]), some (Blk.loop 41 [(4, AV.ptr (Pl.own (List.length h) 0)), (5, AV.ptr (Pl.own (List.length h + 1) 0)), (7, AV.ptr (Pl.own (List.length h + 2) 0)), (9, AV.ptr (Pl.own (List.length h + 3) 0)),
      (16, AV.fn (Fn.func 121) [] [AV.ptr (Pl.own (List.length h + 4) 0), AV.ptr (Pl.own (List.length h + 5) 0), AV.ptr (Pl.own (List.length h + 6) 0)])] #[17, 18] (codeAt (bodyOf 92) [1, 1, 0, 1, 0, 0]) (codeAt (bodyOf 92) [1, 1, 0, 1, 0, 1]) st pd)] := ⟨_, rfl⟩
  have hInv : ∀ last st pd, IterInv w0 b v s night i (h.length + 4) (h.length + 5) (h.length + 6) (Hf last st pd) := fun last st pd => by
    subst hHf
    exact ⟨by simp, by simp, by simp, getElem?_app_left hi, hR.app, HB_app hb (by simp [HBs_some, HBs_none, HBs_nil, FB_cons, FB_nil, row_bdd, AV.bdds, AV.bdd, Pl.bdd, loop_bddT]; exact ⟨by omega, AV.bdd_mono (by omega) _ hfb, by omega⟩)⟩
  have hlen : ∀ last st pd, (Hf last st pd).length = h.length + 8 := fun last st pd => by subst hHf; simp
  have hIt : ∀ (l : List (Nat × WearD)) (last : Int), lastL en (kindOf b s) l last = lastsD en b s night →
      Iter Try.prog w0 (h.length + 7) (IterInv w0 b v s night i (h.length + 4) (h.length + 5) (h.length + 6)) (fun h' => h' = Hf (lastsD en b s night) .ready none ∨ h' = Hf (lastsD en b s night) .done (some (.exit 0))) l (Hf last .ready none) := by
    intro l
    induction l with
    | nil => intro last hl; simp only [lastL] at hl; subst hl; exact .inl rfl
    | cons x r ih =>
      intro last hl
      simp only [Iter]
      refine AYield_drop (AYield_sx (psl := [17, 18]) hmix rfl R92_0a_g R92_0b_g R92_0a.eq_1 R92_0b.eq_1 (nt := 41) (fr0 := _) (ca := _) (cb := _) (by subst hHf; simp; rfl) rfl hps hca hcb fun hb2 ha2 => ?_)
      have q1 : ∀ L, (h ++ L)[i]? = some (some (.row (bayC b v))) := fun L => getElem?_app_left hi
      obtain ⟨_, sp, s2, s3, s4⟩ := hR.slots.use
      obtain ⟨_, kp, k2, k3, k4⟩ := hR.kinds.use
      simp only [List.length_map] at s2 k2
      have hsl := bs.2.2.2.2.2.2.2.2.2.2.2.1 b.slots[s] (List.getElem_mem hs)
      obtain ⟨kn, hkn⟩ : ∃ kn : Nat, b.slots[s].kind = kn := ⟨b.slots[s].kind.toNat, by omega⟩
      have hkn' : b.slots[s].kind.toNat = kn := by omega
      have hkl : kn < b.kinds.length := by omega
      have hkind : kindOf b s = b.kinds[kn] := by simp [kindOf, hs, hkn', hkl]
      have a1 := s2 s hs
      have a2 : ∀ L, rd w0 (h ++ L) ((sp.add (s * 7)).add 0) = some (.int .i64 (kn : Int)) := fun L => rd_get (rdn_app (s3 s _ (by simp [hs]; rfl))) (by simp [PartD.c, hkn])
      have a3 := k2 kn hkl
      have a4 : ∀ L, rdn w0 (h ++ L) (kp.add (kn * 8)) 8 = some (kindOf b s).c := fun L => rdn_app (k3 kn _ (by rw [hkind]; simp [hkl]))
      have hbf : ∀ last st pd, HB (Hf last st pd ++ [some (.row x.2.c)]) := fun last st pd => HB_app (hInv _ _ _).hb (by simp [HBs_some, HBs_none, HBs_nil, FB_cons, FB_nil, row_bdd, AV.bdds, AV.bdd, Pl.bdd, loop_bddT])
      simp only [hHf]
      simp only [go_sem, ↓reduceIte, Nat.reduceEqDiff, Nat.reduceAdd, Nat.reduceSub, Nat.reduceMul, Nat.reduceLT, Nat.reduceLeDiff, Int.reduceLE, Int.reduceLT, Int.reduceAdd, Int.reduceSub, Int.reduceMul, Int.reduceEq, Int.reduceBEq, Int.reduceBNe, Int.reduceNeg, Int.reduceToNat, reduceCtorEq]
      simp only [go_sem, q1, a1, a2, a3, a4, ↓reduceIte, Nat.reduceEqDiff, Nat.reduceAdd, Nat.reduceSub, Nat.reduceMul, Nat.reduceLT, Nat.reduceLeDiff, Int.reduceLE, Int.reduceLT, Int.reduceAdd, Int.reduceSub, Int.reduceMul, Int.reduceEq, Int.reduceBEq, Int.reduceBNe, Int.reduceNeg, Int.reduceToNat, reduceCtorEq]
      refine rdC_q (within_c (kindOf b s) x.2 f en fun _ _ => hf _ _).v ?_
      simp only [go_sem, ↓reduceIte, Nat.reduceEqDiff, Nat.reduceAdd, Nat.reduceSub, Nat.reduceMul, Nat.reduceLT, Nat.reduceLeDiff, Int.reduceLE, Int.reduceLT, Int.reduceAdd, Int.reduceSub, Int.reduceMul, Int.reduceEq, Int.reduceBEq, Int.reduceBNe, Int.reduceNeg, Int.reduceToNat, reduceCtorEq]
      simp only [lastL] at hl
      refine ⟨fun e => ?_, fun e => ?_⟩
      · rw [e] at hl
        have hl : last = lastsD en b s night := by simpa using hl
        exact ⟨Hf last .done (some (.exit 0)) ++ [some (.row x.2.c)], [some (.row x.2.c)], by simp [hHf, WearD.c], by simp [hHf], hbf _ _ _, trivial, Hf last .done (some (.exit 0)), rfl, by simp [hHf], hInv _ _ _, .inr (.inr (by rw [hl, hHf]))⟩
      · rw [e] at hl
        have hl : lastL en (kindOf b s) r x.1 = lastsD en b s night := by simpa using hl
        have := ih _ hl
        simp only [hHf] at this
        exact ⟨Hf x.1 .ready none ++ [some (.row x.2.c)], [some (.row x.2.c)], by simp [hHf, WearD.c], by simp [hHf], hbf _ _ _, trivial, Hf x.1 .ready none, rfl, by simp [hHf], hInv _ _ _, .inl (by rw [hHf]; exact this)⟩
  have key := iter_c b v s night (h.length + 7) i (h.length + 4) (h.length + 5) (h.length + 6) hB hs hn hn2 _ (hInv night .ready none) (by rw [hlen]; omega) (hIt _ night rfl)
  simp only [hHf] at key
  refine key.mono fun v' h' hk => ?_
  rcases hk with rfl | rfl
  · simp only [go_sem, ↓reduceIte, Nat.reduceEqDiff, Nat.reduceAdd, Nat.reduceSub, Nat.reduceMul, Nat.reduceLT, Nat.reduceLeDiff, Int.reduceLE, Int.reduceLT, Int.reduceAdd, Int.reduceSub, Int.reduceMul, Int.reduceEq, Int.reduceBEq, Int.reduceBNe, Int.reduceNeg, Int.reduceToNat, reduceCtorEq]
  · simp only [go_sem, ↓reduceIte, Nat.reduceEqDiff, Nat.reduceAdd, Nat.reduceSub, Nat.reduceMul, Nat.reduceLT, Nat.reduceLeDiff, Int.reduceLE, Int.reduceLT, Int.reduceAdd, Int.reduceSub, Int.reduceMul, Int.reduceEq, Int.reduceBEq, Int.reduceBNe, Int.reduceNeg, Int.reduceToNat, reduceCtorEq]
end Go.Proofs.Ab

namespace Go.Proofs.Ab
open Go Go.Proofs
variable {w0 : World} {h : Heap}
attribute [local irreducible] ACall ACallV AYield DCall DCallV rvC rdC lp rg dr ex un rv rd'

def noWear : WearD := ⟨⟨0, 0⟩, ⟨0, 0⟩, ⟨0, 0⟩⟩

theorem Grow_c (k : KindD) (w : WearD) (u : UseD) : DCall Try.prog w0 13 [.agg k.c, .agg w.c, .agg u.c] h
    (if kindB k && wornB w && dayB u then .tup [.agg (growS k w u).c, .int .i64 0] else .tup [.agg noWear.c, .int .i64 2]) h := by
  refine DCall_quiet hmix mf13_ok mf13_b mf13_g (Nat.le_of_ble_eq_true rfl) (by split <;> simp [AV.bdd, AV.bdds]) fun hb ha => ex_in ?_
  simp only [go_sem, mf13, ↓reduceIte, Nat.reduceEqDiff, Nat.reduceAdd, Nat.reduceSub, Nat.reduceMul, Nat.reduceLT, Nat.reduceLeDiff, Int.reduceLE, Int.reduceLT, Int.reduceAdd, Int.reduceSub, Int.reduceMul, Int.reduceEq, Int.reduceBEq, Int.reduceBNe, Int.reduceNeg, Int.reduceToNat, reduceCtorEq]
  refine rvC_use (kind_c k).v ?_
  simp only [go_sem, ↓reduceIte, Nat.reduceEqDiff, Nat.reduceAdd, Nat.reduceSub, Nat.reduceMul, Nat.reduceLT, Nat.reduceLeDiff, Int.reduceLE, Int.reduceLT, Int.reduceAdd, Int.reduceSub, Int.reduceMul, Int.reduceEq, Int.reduceBEq, Int.reduceBNe, Int.reduceNeg, Int.reduceToNat, reduceCtorEq]
  refine ⟨fun e1 => ?_, fun e1 => by simp [e1, noWear]⟩
  refine rvC_use (worn_c w).v ?_
  simp only [go_sem, ↓reduceIte, Nat.reduceEqDiff, Nat.reduceAdd, Nat.reduceSub, Nat.reduceMul, Nat.reduceLT, Nat.reduceLeDiff, Int.reduceLE, Int.reduceLT, Int.reduceAdd, Int.reduceSub, Int.reduceMul, Int.reduceEq, Int.reduceBEq, Int.reduceBNe, Int.reduceNeg, Int.reduceToNat, reduceCtorEq]
  refine ⟨fun e2 => ?_, fun e2 => by simp [e1, e2, noWear]⟩
  refine rvC_use (day_c u).v ?_
  simp only [go_sem, ↓reduceIte, Nat.reduceEqDiff, Nat.reduceAdd, Nat.reduceSub, Nat.reduceMul, Nat.reduceLT, Nat.reduceLeDiff, Int.reduceLE, Int.reduceLT, Int.reduceAdd, Int.reduceSub, Int.reduceMul, Int.reduceEq, Int.reduceBEq, Int.reduceBNe, Int.reduceNeg, Int.reduceToNat, reduceCtorEq]
  refine ⟨fun e3 => by simp [e1, e2, e3, noWear], fun e3 => ?_⟩
  refine rvC_use (grow_c k w u e1 e2 e3).v ?_
  simp only [go_sem, ↓reduceIte, Nat.reduceEqDiff, Nat.reduceAdd, Nat.reduceSub, Nat.reduceMul, Nat.reduceLT, Nat.reduceLeDiff, Int.reduceLE, Int.reduceLT, Int.reduceAdd, Int.reduceSub, Int.reduceMul, Int.reduceEq, Int.reduceBEq, Int.reduceBNe, Int.reduceNeg, Int.reduceToNat, reduceCtorEq]
  simp [e1, e2, e3, WearD.c]

def LastsV (b : BayD) (slot night : Int) : AV :=
  if bayB b && inB slot 0 (b.slots.length - 1) && inB night (-1) (b.days.length - 1) then .tup [.int .i64 (lastsD Span.high b slot.toNat night), .int .i64 (lastsD Span.low b slot.toNat night), .int .i64 0]
  else .tup [.int .i64 0, .int .i64 0, .int .i64 2]

theorem Lasts_c (b : BayD) (v : BayV) (slot night : Int) (hR : BayR w0 h b v) : DCall Try.prog w0 43 [.agg (bayC b v), .int .i64 slot, .int .i64 night] h (LastsV b slot night) h := by
  refine DCall_quiet hmix mf43_ok mf43_b mf43_g (Nat.le_of_ble_eq_true rfl) (by unfold LastsV; split <;> simp [AV.bdd, AV.bdds]) fun hb ha => ex_in ?_
  have o1 := hR.kinds.one
  have o2 := hR.slots.one
  have o3 := hR.days.one
  have o4 := hR.nights.one
  have o5 := hR.defs.one
  have l1 := hR.slots.use.1
  have l2 := hR.days.use.1
  have l3 := hR.len
  simp only [List.length_map] at l1 l2
  simp only [go_sem, mf43, o1.1, o2.1, o3.1, o4.1, o5.1, ↓reduceIte, Nat.reduceEqDiff, Nat.reduceAdd, Nat.reduceSub, Nat.reduceMul, Nat.reduceLT, Nat.reduceLeDiff, Int.reduceLE, Int.reduceLT, Int.reduceAdd, Int.reduceSub, Int.reduceMul, Int.reduceEq, Int.reduceBEq, Int.reduceBNe, Int.reduceNeg, Int.reduceToNat, reduceCtorEq]
  refine rvC_use (bay_c b v hR.app).v ?_
  simp only [go_sem, l1, l2, ↓reduceIte, Nat.reduceEqDiff, Nat.reduceAdd, Nat.reduceSub, Nat.reduceMul, Nat.reduceLT, Nat.reduceLeDiff, Int.reduceLE, Int.reduceLT, Int.reduceAdd, Int.reduceSub, Int.reduceMul, Int.reduceEq, Int.reduceBEq, Int.reduceBNe, Int.reduceNeg, Int.reduceToNat, reduceCtorEq]
  refine ⟨fun e1 => ⟨(by unfold I64; omega), ?_⟩, fun e1 => by simp [LastsV, e1]⟩
  refine rvC_use (in_c _ _ _).v ?_
  simp only [go_sem, l1, l2, ↓reduceIte, Nat.reduceEqDiff, Nat.reduceAdd, Nat.reduceSub, Nat.reduceMul, Nat.reduceLT, Nat.reduceLeDiff, Int.reduceLE, Int.reduceLT, Int.reduceAdd, Int.reduceSub, Int.reduceMul, Int.reduceEq, Int.reduceBEq, Int.reduceBNe, Int.reduceNeg, Int.reduceToNat, reduceCtorEq]
  refine ⟨fun e2 => ⟨(by unfold I64; omega), ?_⟩, fun e2 => by simp [LastsV, e1, e2]⟩
  refine rvC_use (in_c _ _ _).v ?_
  simp only [go_sem, o1.1, o2.1, o3.1, o4.1, o5.1, ↓reduceIte, Nat.reduceEqDiff, Nat.reduceAdd, Nat.reduceSub, Nat.reduceMul, Nat.reduceLT, Nat.reduceLeDiff, Int.reduceLE, Int.reduceLT, Int.reduceAdd, Int.reduceSub, Int.reduceMul, Int.reduceEq, Int.reduceBEq, Int.reduceBNe, Int.reduceNeg, Int.reduceToNat, reduceCtorEq]
  refine ⟨fun e3 => by simp [LastsV, e1, e2, e3], fun e3 => ?_⟩
  have f2 := e2
  have f3 := e3
  simp only [inB, Bool.and_eq_true, decide_eq_true_eq] at f2 f3
  obtain ⟨s, rfl⟩ : ∃ s : Nat, slot = s := ⟨slot.toNat, by omega⟩
  refine rvC_use (lasts_c b v s night _ Span.high (i := h.length + 1) (by simp only [go_sem, bayC, ↓reduceIte, Nat.reduceEqDiff, Nat.reduceAdd, Nat.reduceSub, Nat.reduceMul, Nat.reduceLT, Nat.reduceLeDiff, Int.reduceLE, Int.reduceLT, Int.reduceAdd, Int.reduceSub, Int.reduceMul, Int.reduceEq, Int.reduceBEq, Int.reduceBNe, Int.reduceNeg, Int.reduceToNat, reduceCtorEq]) hR.app e1 (by omega) (by omega) (by omega) ⟨rfl, rfl⟩ fun sp k => (high_c sp).v).v ?_
  simp only [go_sem, ↓reduceIte, Nat.reduceEqDiff, Nat.reduceAdd, Nat.reduceSub, Nat.reduceMul, Nat.reduceLT, Nat.reduceLeDiff, Int.reduceLE, Int.reduceLT, Int.reduceAdd, Int.reduceSub, Int.reduceMul, Int.reduceEq, Int.reduceBEq, Int.reduceBNe, Int.reduceNeg, Int.reduceToNat, reduceCtorEq]
  refine rvC_use (lasts_c b v s night _ Span.low (i := h.length + 1) (by simp only [go_sem, bayC, ↓reduceIte, Nat.reduceEqDiff, Nat.reduceAdd, Nat.reduceSub, Nat.reduceMul, Nat.reduceLT, Nat.reduceLeDiff, Int.reduceLE, Int.reduceLT, Int.reduceAdd, Int.reduceSub, Int.reduceMul, Int.reduceEq, Int.reduceBEq, Int.reduceBNe, Int.reduceNeg, Int.reduceToNat, reduceCtorEq]) hR.app e1 (by omega) (by omega) (by omega) ⟨rfl, rfl⟩ fun sp k => (low_c sp).v).v ?_
  simp only [go_sem, ↓reduceIte, Nat.reduceEqDiff, Nat.reduceAdd, Nat.reduceSub, Nat.reduceMul, Nat.reduceLT, Nat.reduceLeDiff, Int.reduceLE, Int.reduceLT, Int.reduceAdd, Int.reduceSub, Int.reduceMul, Int.reduceEq, Int.reduceBEq, Int.reduceBNe, Int.reduceNeg, Int.reduceToNat, reduceCtorEq]
  simp [LastsV, e1, e2, e3]
end Go.Proofs.Ab

namespace Go.Proofs.Ab
open Go Go.Proofs
variable {w0 : World} {h : Heap}
attribute [local irreducible] ACall ACallV AYield DCall DCallV rvC rdC lp rg dr ex un rv rd'

def rowU (b : BayD) (s n : Nat) : List Int := (List.range n).map fun (j : Nat) => lastsD Span.high b s ((j : Int) - 1)
def untilT (b : BayD) : List (List Int) := (List.range b.slots.length).map fun s => rowU b s (b.days.length + 1)
theorem rowU_succ (b : BayD) (s n : Nat) : rowU b s (n + 1) = rowU b s n ++ [lastsD Span.high b s ((n : Int) - 1)] := by simp [rowU, List.range_succ]
theorem rowU_len (b : BayD) (s n : Nat) : (rowU b s n).length = n := by simp [rowU]

def outS (N n : Nat) (len : Nat) : List AV := (List.range n).map fun s => .sl (.own (N + s) 0) len 1 false

theorem outS_len (N n l : Nat) : (outS N n l).length = n := by simp [outS]

theorem until_c (b : BayD) (v : BayV) {i : Nat} (hi : h[i]? = some (some (.row (bayC b v)))) (hR : BayR w0 h b v) (hB : bayB b = true) :
    DCall Try.prog w0 73 [.ptr (.own i 0)] h (.sl (.own (h.length + b.slots.length) 0) b.slots.length 1 false)
      (h ++ ((untilT b).map (fun l => some (.row (ints l))) ++ [some (.row (outS h.length b.slots.length (b.days.length + 1)))])) := by
  refine DCall_ord hmix mf73_ok mf73_b mf73_g (Nat.le_of_ble_eq_true rfl) fun hb ha => ex_in ?_
  have hi' : ∀ L, (h ++ L)[i]? = some (some (.row (bayC b v))) := fun L => getElem?_app_left hi
  have bs := bayB_spec hB
  have hil := get_lt hi
  have l1 := hR.slots.use.1
  have l2 := hR.days.use.1
  simp only [List.length_map] at l1 l2
  simp only [go_sem, mf73, hi', l1, ↓reduceIte, Nat.reduceEqDiff, Nat.reduceAdd, Nat.reduceSub, Nat.reduceMul, Nat.reduceLT, Nat.reduceLeDiff, Int.reduceLE, Int.reduceLT, Int.reduceAdd, Int.reduceSub, Int.reduceMul, Int.reduceEq, Int.reduceBEq, Int.reduceBNe, Int.reduceNeg, Int.reduceToNat, reduceCtorEq]
  rw [List.append_nil]
  refine lp_for (S := Unit) (fun s _ => [(0, .ptr (.own i 0)), (3, ownV 1 (h.length + s) s), (12, .int .i64 b.slots.length), (13, .int .i64 s)])
    (fun s _ => h ++ (((untilT b).take s).map (fun l => some (.row (ints l))) ++ ownB (outS h.length s (b.days.length + 1)))) (fun _ _ => True) b.slots.length () trivial (by simp [ownV]) (by simp [ownB, outS]) (fun s _ hs _ ih => ?_) (fun _ _ => ?_)
  · refine lp_step hmix L73_1_g [0, 3, 12, 13] L73_1.eq_1 ?_
    have e1 : (s : Int) < b.slots.length := by omega
    simp only [go_sem, e1, ↓reduceIte, Nat.reduceEqDiff, Nat.reduceAdd, Nat.reduceSub, Nat.reduceMul, Nat.reduceLT, Nat.reduceLeDiff, Int.reduceLE, Int.reduceLT, Int.reduceAdd, Int.reduceSub, Int.reduceMul, Int.reduceEq, Int.reduceBEq, Int.reduceBNe, Int.reduceNeg, Int.reduceToNat, reduceCtorEq]
    obtain ⟨h2, eh2⟩ : ∃ h2, h2 = h ++ (((untilT b).take s).map (fun l => some (.row (ints l))) ++ ownB (outS h.length s (b.days.length + 1))) := ⟨_, rfl⟩
    have hov : (ownV 1 (h.length + s) s).bdd h2.length := by
      rw [eh2]
      refine ownV_bdd (l := outS h.length s (b.days.length + 1)) (by simp [outS]) (by omega) ?_
      simp [untilT]; omega
    have hb2 : HB h2 := by
      rw [eh2]
      refine HB_app hb fun x hx => ?_
      rw [List.mem_append] at hx
      rcases hx with hx | hx
      · simp only [List.mem_map, Option.some.injEq] at hx
        obtain ⟨l, _, rfl⟩ := hx
        exact row_bdd.2 (ints_bdd _ _)
      · refine HBs_ownB ?_ x hx
        rw [bdds_iff]
        intro y hy
        simp only [outS, List.mem_map, List.mem_range] at hy
        obtain ⟨q, hq, rfl⟩ := hy
        simp [AV.bdd, Pl.bdd, untilT]; omega
    have hz : h.length ≤ h2.length := by rw [eh2]; simp
    have hi2 : h2[i]? = some (some (.row (bayC b v))) := by rw [eh2]; exact hi' _
    have hR2 : BayR w0 h2 b v := by rw [eh2]; exact hR.app
    rw [← eh2]
    generalize eov : ownV 1 (h.length + s) s = ov at hov ⊢
    refine lp_for (S := Unit) (fun j _ => [(0, .ptr (.own i 0)), (3, ov), (4, .int .i64 s), (5, ownV 1 h2.length j), (6, .int .i64 ((j : Int) - 1)), (12, .int .i64 b.slots.length), (13, .int .i64 s)])
      (fun j _ => h2 ++ ownB (ints (rowU b s j))) (fun _ _ => True) (b.days.length + 1) () trivial (by simp [ownV]) (by simp [ownB, rowU, ints]) (fun j _ hj _ ih2 => ?_) (fun _ _ => ?_)
    · refine lp_step hmix L73_0_g [0, 3, 4, 5, 6, 12, 13] L73_0.eq_1 ?_
      have hi3 : ∀ L, (h2 ++ L)[i]? = some (some (.row (bayC b v))) := fun L => getElem?_app_left hi2
      have e2 : (j : Int) - 1 < b.days.length := by omega
      simp only [go_sem, hi3, l2, e2, ↓reduceIte, Nat.reduceEqDiff, Nat.reduceAdd, Nat.reduceSub, Nat.reduceMul, Nat.reduceLT, Nat.reduceLeDiff, Int.reduceLE, Int.reduceLT, Int.reduceAdd, Int.reduceSub, Int.reduceMul, Int.reduceEq, Int.reduceBEq, Int.reduceBNe, Int.reduceNeg, Int.reduceToNat, reduceCtorEq]
      refine rvC_use (lasts_c b v s ((j : Int) - 1) _ Span.high (hi3 _) hR2.app hB hs (by omega) (by omega) ⟨rfl, rfl⟩ fun sp k => (high_c sp).v).v ?_
      simp only [go_sem, ↓reduceIte, Nat.reduceEqDiff, Nat.reduceAdd, Nat.reduceSub, Nat.reduceMul, Nat.reduceLT, Nat.reduceLeDiff, Int.reduceLE, Int.reduceLT, Int.reduceAdd, Int.reduceSub, Int.reduceMul, Int.reduceEq, Int.reduceBEq, Int.reduceBNe, Int.reduceNeg, Int.reduceToNat, reduceCtorEq]
      obtain ⟨G, _, _, eG⟩ := app_more (w0 := w0) (h := h2) (es := 1) (b := 8) (n := j) (old := ints (rowU b s j)) (x := [.int .i64 (lastsD Span.high b s ((j : Int) - 1))]) (X := [some (.row [.int .i64 (lastsD Span.high b s ((j : Int) - 1))])]) (ownB (ints (rowU b s j))).length true
        (by simp [rowU_len]) (by simp) rfl (by omega) rfl (by omega) (by omega)
      simp only [go_sem, eG, ↓reduceIte, Nat.reduceEqDiff, Nat.reduceAdd, Nat.reduceSub, Nat.reduceMul, Nat.reduceLT, Nat.reduceLeDiff, Int.reduceLE, Int.reduceLT, Int.reduceAdd, Int.reduceSub, Int.reduceMul, Int.reduceEq, Int.reduceBEq, Int.reduceBNe, Int.reduceNeg, Int.reduceToNat, reduceCtorEq]
      refine ⟨(by unfold I64; omega), lp_ord [G.length] (L' := ownB (ints (rowU b s (j + 1)))) hz hb2 ?_ (ih2 () trivial)⟩
      rw [rowU_succ, ← ints_app, ownB_ne (by simp)]
      have hi4 := shf_lt (js := [G.length]) (show i < h2.length by omega)
      refine ⟨rfl, by simp, ord_c (fun b' hb' => ?_) ord_n, by rw [ints_app]; simp [HBs_some, HBs_none, HBs_nil, FB_cons, FB_nil, row_bdd, AV.bdds, AV.bdd, Pl.bdd, loop_bddT], by simp [HBs_some, HBs_none, HBs_nil, FB_cons, FB_nil, row_bdd, AV.bdds, AV.bdd, Pl.bdd, loop_bddT, ownV_s, AV.bdd_mono (Nat.le_succ _) _ hov]; omega, ?_⟩
      · cases hb'
        simp [Blk.ren, AV.rens_id (M := 0) (fun _ h => by omega) (bdds_append (ints_bdd 0 (rowU b s j)) (show AV.bdds 0 [AV.int .i64 (lastsD Span.high b s ((j : Int) - 1))] by simp [AV.bdds, AV.bdd]))]
      · simp [Fr.ren, AV.ren, AV.rens, Pl.ren, Blk.ren, shf_0, shf_a, ownV_s, AV.ren_bdd hov, hi4]
    · rw [ownV_s, ownB_ne (by simp [rowU, ints])]
      refine lp_step hmix L73_0_g [0, 3, 4, 5, 6, 12, 13] L73_0.eq_1 ?_
      have hi3 : ∀ L, (h2 ++ L)[i]? = some (some (.row (bayC b v))) := fun L => getElem?_app_left hi2
      have e2 : ¬ ((b.days.length + 1 : Nat) : Int) - 1 < b.days.length := by omega
      simp only [go_sem, hi3, l2, e2, ↓reduceIte, Nat.reduceEqDiff, Nat.reduceAdd, Nat.reduceSub, Nat.reduceMul, Nat.reduceLT, Nat.reduceLeDiff, Int.reduceLE, Int.reduceLT, Int.reduceAdd, Int.reduceSub, Int.reduceMul, Int.reduceEq, Int.reduceBEq, Int.reduceBNe, Int.reduceNeg, Int.reduceToNat, reduceCtorEq]
      obtain ⟨h3, eh3⟩ : ∃ h3, h3 = h ++ ((untilT b).take s).map (fun l => some (.row (ints l))) := ⟨_, rfl⟩
      have hl3 : h3.length = h.length + s := by rw [eh3]; simp [untilT]; omega
      have e23 : h2 = h3 ++ ownB (outS h.length s (b.days.length + 1)) := by rw [eh2, eh3, List.append_assoc]
      obtain ⟨G, hGl, hGq, eG⟩ := app_more (w0 := w0) (h := h3) (es := 1) (b := 24) (n := s) (old := outS h.length s (b.days.length + 1)) (x := [.sl (.own h2.length 0) (b.days.length + 1) 1 false]) (X := [some (.row (ints (rowU b s (b.days.length + 1)))), some (.row [.sl (.own h2.length 0) (b.days.length + 1) 1 false])])
        ((ownB (outS h.length s (b.days.length + 1))).length + 1) true (by simp [outS]) (by simp) rfl (by omega) rfl (by omega) (by omega)
      have hl2 : h2.length = h3.length + (ownB (outS h.length s (b.days.length + 1))).length := by rw [e23]; simp
      rw [show ownV 1 h3.length s = ov by rw [hl3]; exact eov, ← List.append_assoc, ← e23, ← Nat.add_assoc, ← hl2] at eG
      have hl4 : h2.length + 2 = h3.length + G.length := by rw [hGl, hl2]; simp; omega
      simp only [go_sem, eG, ↓reduceIte, Nat.reduceEqDiff, Nat.reduceAdd, Nat.reduceSub, Nat.reduceMul, Nat.reduceLT, Nat.reduceLeDiff, Int.reduceLE, Int.reduceLT, Int.reduceAdd, Int.reduceSub, Int.reduceMul, Int.reduceEq, Int.reduceBEq, Int.reduceBNe, Int.reduceNeg, Int.reduceToNat, reduceCtorEq]
      have hb3 : HB h3 := by
        rw [eh3]
        refine HB_app hb fun x hx => ?_
        simp only [List.mem_map, Option.some.injEq] at hx
        obtain ⟨l, _, rfl⟩ := hx
        exact row_bdd.2 (ints_bdd _ _)
      have hq := hGq 0
      have hout : outS h.length s (b.days.length + 1) ++ [.sl (.own h3.length 0) (b.days.length + 1) 1 false] = outS h.length (s + 1) (b.days.length + 1) := by simp [outS, List.range_succ, hl3]
      have houtb : AV.bdds h3.length (outS h.length s (b.days.length + 1)) := by
        rw [bdds_iff]; intro y hy
        simp only [outS, List.mem_map, List.mem_range] at hy
        obtain ⟨q, hq, rfl⟩ := hy
        simp [AV.bdd, Pl.bdd]; omega
      have hi5 := shf_lt (js := [(ownB (outS h.length s (b.days.length + 1))).length, G.length]) (show i < h3.length by omega)
      refine ⟨(by unfold I64; omega), lp_ord [(ownB (outS h.length s (b.days.length + 1))).length, G.length] (fr' := [(0, .ptr (.own i 0)), (3, .sl (.own (h3.length + 1) 0) (s + 1) 1 false), (12, .int .i64 b.slots.length), (13, .int .i64 (s + 1))])
        (L' := [some (.row (ints (rowU b s (b.days.length + 1)))), some (.row (outS h.length s (b.days.length + 1) ++ [.sl (.own h3.length 0) (b.days.length + 1) 1 false]))]) (by omega) hb3 ⟨rfl, ?_, ?_, ?_, ?_, ?_⟩ ?_⟩
      · rw [hGl]; simp
      · refine ord_c (fun b' hb' => ?_) (ord_c (fun b' hb' => ?_) ord_n)
        · cases hb'
          rw [List.getElem?_append_left (by rw [hGl]; simp), ← Nat.add_zero (ownB (outS h.length s (b.days.length + 1))).length, hq]
          simp [Blk.ren]
        · cases hb'
          rw [List.getElem?_append_right (Nat.le_refl _)]
          simp only [Nat.sub_self, Blk.ren, rens_eq, List.map_append]
          rw [← rens_eq, AV.rens_bdd houtb]
          simp [Fr.ren, AV.ren, AV.rens, Pl.ren, Blk.ren, shf_0, shf_a, hl2]
      · simp [HBs_some, HBs_none, HBs_nil, FB_cons, FB_nil, row_bdd, AV.bdds, AV.bdd, Pl.bdd, loop_bddT]
        exact bdds_append (AV.bdds_mono (by omega) _ houtb) (by simp [HBs_some, HBs_none, HBs_nil, FB_cons, FB_nil, row_bdd, AV.bdds, AV.bdd, Pl.bdd, loop_bddT])
      · simp [HBs_some, HBs_none, HBs_nil, FB_cons, FB_nil, row_bdd, AV.bdds, AV.bdd, Pl.bdd, loop_bddT]; try omega
      · simp [Fr.ren, AV.ren, AV.rens, Pl.ren, Blk.ren, shf_0, shf_a, hi5]
      · have := ih () trivial
        rw [show h ++ (((untilT b).take (s + 1)).map (fun l => some (.row (ints l))) ++ ownB (outS h.length (s + 1) (b.days.length + 1))) = h3 ++ [some (.row (ints (rowU b s (b.days.length + 1)))), some (.row (outS h.length s (b.days.length + 1) ++ [.sl (.own h3.length 0) (b.days.length + 1) 1 false]))] by
          rw [hout, ownB_ne (fun e => by have := outS_len h.length (s + 1) (b.days.length + 1); rw [e] at this; simp at this), eh3, List.take_add_one, List.getElem?_eq_getElem (show s < (untilT b).length by simpa [untilT] using hs)]
          simp [untilT]] at this
        rw [show h.length + (s + 1) = h3.length + 1 by omega] at this
        exact this
  · refine lp_step hmix L73_1_g [0, 3, 12, 13] L73_1.eq_1 ?_
    have e1 : ¬ (b.slots.length : Int) < b.slots.length := by omega
    have e2 : b.slots.length ≠ 0 := by omega
    simp only [go_sem, e1, ↓reduceIte, Nat.reduceEqDiff, Nat.reduceAdd, Nat.reduceSub, Nat.reduceMul, Nat.reduceLT, Nat.reduceLeDiff, Int.reduceLE, Int.reduceLT, Int.reduceAdd, Int.reduceSub, Int.reduceMul, Int.reduceEq, Int.reduceBEq, Int.reduceBNe, Int.reduceNeg, Int.reduceToNat, reduceCtorEq]
    rw [List.take_of_length_le (by simp [untilT])]
    rw [ownB_ne (fun e => by have := outS_len h.length b.slots.length (b.days.length + 1); rw [e] at this; exact e2 this.symm)]
    simp only [ownV, if_neg e2]
    refine ordK_id (fun x hx => ?_) (fun x hx => ?_) ?_
    · simp only [List.mem_append, List.mem_map, List.mem_singleton, Option.some.injEq] at hx
      rcases hx with ⟨l, _, rfl⟩ | rfl
      · exact ⟨_, rfl⟩
      · exact ⟨_, rfl⟩
    · simp only [List.mem_append, List.mem_map, List.mem_singleton, Option.some.injEq] at hx
      rcases hx with ⟨l, _, rfl⟩ | rfl
      · exact row_bdd.2 (ints_bdd _ _)
      · rw [row_bdd, bdds_iff]
        intro y hy
        simp only [outS, List.mem_map, List.mem_range] at hy
        obtain ⟨q, hq, rfl⟩ := hy
        simp [AV.bdd, Pl.bdd, untilT]; omega
    · simp [AV.bdd, Pl.bdd, untilT]
end Go.Proofs.Ab

namespace Go.Proofs.Ab
open Go Go.Proofs
variable {w0 : World} {h : Heap}
attribute [local irreducible] ACall ACallV AYield DCall DCallV rvC rdC lp rg dr ex un rv rd'

structure LL (w0 : World) (h : Heap) (v : AV) (t : List (List Int)) : Prop where
  ex : ∃ vs : List AV, vs.length = t.length ∧ Sl w0 h 1 v (vs.map fun x => [x]) ∧ ∀ (j : Nat) x l, vs[j]? = some x → t[j]? = some l → Sl w0 h 1 x (l.map fun z => [.int .i64 z])

theorem LL.app {v : AV} {t : List (List Int)} {L : Heap} (s : LL w0 h v t) : LL w0 (h ++ L) v t := by
  obtain ⟨vs, h1, h2, h3⟩ := s.ex
  exact ⟨vs, h1, h2.app, fun j x l e e' => (h3 j x l e e').app⟩
theorem LL.bdd {v : AV} {t : List (List Int)} (s : LL w0 h v t) {N : Nat} (hN : h.length ≤ N) : v.bdd N := by
  obtain ⟨vs, h1, h2, h3⟩ := s.ex
  exact h2.bdd hN
theorem LL.one {v : AV} {t : List (List Int)} (s : LL w0 h v t) : Ab.one v = true ∧ cellsOf v = some [v] := by
  obtain ⟨vs, h1, h2, h3⟩ := s.ex
  exact h2.one
theorem Sl.lt {es : Nat} {v : AV} {rows : List (List AV)} (s : Sl w0 h es v rows) {j : Nat} (hj : j < rows.length) : ∃ p : Pl, idxsV es v (some j) = some (.ptr p) ∧ ∀ L c, rows[j]? = some c → rdn w0 (h ++ L) p es = some c := by
  obtain ⟨_, p, h1, h2, _⟩ := s.use
  exact ⟨_, h1 j hj, fun L c hc => rdn_app (h2 j c hc)⟩
theorem LL.at_ {v : AV} {t : List (List Int)} (s : LL w0 h v t) {a c : Nat} (ha : a < t.length) (hc : c < t[a].length) : ∃ (p q : Pl) (x : AV), idxsV 1 v (some a) = some (.ptr p) ∧ (∀ L, rd w0 (h ++ L) p = some x) ∧
    idxsV 1 x (some c) = some (.ptr q) ∧ ∀ L, rd w0 (h ++ L) q = some (.int .i64 t[a][c]) := by
  obtain ⟨vs, h1, h2, h3⟩ := s.ex
  obtain ⟨p, p1, p2⟩ := h2.lt (j := a) (by simpa [h1] using ha)
  obtain ⟨x, hx⟩ : ∃ x, vs[a]? = some x := ⟨_, List.getElem?_eq_getElem (by omega)⟩
  obtain ⟨q, q1, q2⟩ := (h3 a x t[a] hx (List.getElem?_eq_getElem ha)).lt (j := c) (by simpa using hc)
  refine ⟨p, q, x, p1, fun L => ?_, q1, fun L => ?_⟩
  · have := p2 L [x] (by simp [hx])
    have := rd_get this (o := 0) (x := x) rfl
    rwa [show p.add 0 = p by cases p <;> simp [Pl.add, Addr.add]] at this
  · have := q2 L [.int .i64 t[a][c]] (by simp [hc])
    have := rd_get this (o := 0) (x := .int .i64 t[a][c]) rfl
    rwa [show q.add 0 = q by cases q <;> simp [Pl.add, Addr.add]] at this

theorem until_LL (b : BayD) (hB : bayB b = true) : LL w0 (h ++ ((untilT b).map (fun l => some (.row (ints l))) ++ [some (.row (outS h.length b.slots.length (b.days.length + 1)))])) (.sl (.own (h.length + b.slots.length) 0) b.slots.length 1 false) (untilT b) := by
  refine ⟨outS h.length b.slots.length (b.days.length + 1), by simp [outS, untilT], ?_, fun j x l hx hl => ?_⟩
  · have := Sl_lit (w0 := w0) (h := h) ((outS h.length b.slots.length (b.days.length + 1)).map fun x => [x]) (es := 1) false (L := (untilT b).map (fun l => some (.row (ints l))) ++ [some (.row (outS h.length b.slots.length (b.days.length + 1)))]) b.slots.length
      (by rw [List.getElem?_append_right (by simp [untilT])]; simp [untilT, List.flatten_eq_flatMap, List.flatMap_map]) (by simp)
    simpa [outS] using this
  · simp only [outS, List.getElem?_map, Option.map_eq_some_iff, List.getElem?_range] at hx
    obtain ⟨q, hq, rfl⟩ := hx
    have hjl : j < b.slots.length := by
      rcases Nat.lt_or_ge j b.slots.length with a | a
      · exact a
      · rw [List.getElem?_eq_none (by simpa using a)] at hq; cases hq
    rw [List.getElem?_range hjl] at hq
    cases hq
    have hll : l.length = b.days.length + 1 := by
      simp only [untilT, List.getElem?_map, List.getElem?_range hjl, Option.map_some, Option.some.injEq] at hl
      rw [← hl]; simp [rowU]
    have := Sl_lit (w0 := w0) (h := h) (l.map fun z => [.int .i64 z]) (es := 1) false (L := (untilT b).map (fun l => some (.row (ints l))) ++ [some (.row (outS h.length b.slots.length (b.days.length + 1)))]) j
      (by rw [List.getElem?_append_left (by simpa [untilT] using hjl)]; simp [hl, List.flatten_eq_flatMap, List.flatMap_map, ints]; exact List.map_eq_flatMap) (by simp)
    simpa [hll] using this

def defIn (sp : Span) (s : Nat) (d : DefD) : Bool := (d.slot == (s : Int)) && (decide (sp.low ≤ d.nights.low) && decide (d.nights.high ≤ sp.high))
def slotNeeds (b : BayD) (sp : Span) (s : Nat) : Bool := (decide (sp.high + 1 < b.days.length) && decide (lastsD Span.high b s (sp.low - 1) < sp.high + 1)) || b.defs.any (defIn sp s)
def neededD (b : BayD) (sp : Span) : Int := idxOf (slotNeeds b sp) (List.range b.slots.length)

theorem needed_c (b : BayD) (v : BayV) (sp : Span) (tv : AV) {i : Nat} (hi : h[i]? = some (some (.row (bayC b v)))) (hR : BayR w0 h b v) (hB : bayB b = true) (hT : LL w0 h tv (untilT b)) (h1 : 0 ≤ sp.low) (h2 : sp.low ≤ sp.high) (h3 : sp.high < b.days.length) :
    DCall Try.prog w0 87 [.ptr (.own i 0), .agg sp.c, tv] h (.int .i64 (neededD b sp)) h := by
  refine DCall_quiet hmix mf87_ok mf87_b mf87_g (Nat.le_of_ble_eq_true rfl) (by simp [AV.bdd, AV.bdds]) fun hb ha => ex_in ?_
  have hi' : ∀ L, (h ++ L)[i]? = some (some (.row (bayC b v))) := fun L => getElem?_app_left hi
  have bs := bayB_spec hB
  have hil := get_lt hi
  have l1 := hR.slots.use.1
  have l2 := hR.days.use.1
  obtain ⟨l3, dp, d2, d3, d4⟩ := hR.defs.use
  simp only [List.length_map] at l1 l2 l3 d2
  obtain ⟨sl, sh⟩ := sp
  simp only at h1 h2 h3
  obtain ⟨lo, rfl⟩ : ∃ lo : Nat, sl = lo := ⟨sl.toNat, by omega⟩
  simp only [go_sem, mf87, hi', l1, ↓reduceIte, Nat.reduceEqDiff, Nat.reduceAdd, Nat.reduceSub, Nat.reduceMul, Nat.reduceLT, Nat.reduceLeDiff, Int.reduceLE, Int.reduceLT, Int.reduceAdd, Int.reduceSub, Int.reduceMul, Int.reduceEq, Int.reduceBEq, Int.reduceBNe, Int.reduceNeg, Int.reduceToNat, reduceCtorEq]
  refine lp_all (fun j => [(0, .ptr (.own i 0)), (2, tv), (4, .ptr (.own h.length 0)), (15, .int .i64 b.slots.length), (16, .int .i64 j)]) (fun j => slotNeeds b ⟨lo, sh⟩ j = false) b.slots.length rfl (fun j hj hall ih => ?_) (fun hall => ?_)
  · refine lp_step hmix L87_1_g [0, 2, 4, 15, 16] L87_1.eq_1 ?_
    have e1 : (j : Int) < b.slots.length := by omega
    have hlen : (untilT b)[j]'(by simpa [untilT] using hj) = rowU b j (b.days.length + 1) := by simp [untilT]
    obtain ⟨p, q, x, a1, a2, a3, a4⟩ := hT.at_ (a := j) (c := lo) (by simpa [untilT] using hj) (by rw [hlen, rowU_len]; omega)
    have a4' : ∀ L, rd w0 (h ++ L) q = some (.int .i64 (lastsD Span.high b j ((lo : Int) - 1))) := fun L => by
      rw [a4 L]; simp only [hlen, rowU, List.getElem_map, List.getElem_range]
    have hfound : slotNeeds b ⟨lo, sh⟩ j = true → neededD b ⟨lo, sh⟩ = j := fun e => idxOf_at (by simpa using hj) (fun i hi hi2 => by simpa using hall i hi) (by simpa using e)
    simp only [go_sem, e1, hi', l2, l3, ↓reduceIte, Nat.reduceEqDiff, Nat.reduceAdd, Nat.reduceSub, Nat.reduceMul, Nat.reduceLT, Nat.reduceLeDiff, Int.reduceLE, Int.reduceLT, Int.reduceAdd, Int.reduceSub, Int.reduceMul, Int.reduceEq, Int.reduceBEq, Int.reduceBNe, Int.reduceNeg, Int.reduceToNat, reduceCtorEq]
    refine ⟨(by unfold I64; omega), ?_⟩
    refine ⟨fun e2 => ?_, fun e2 => ?_⟩
    · simp only [go_sem, a1, a2, a3, a4', hi', l3, ↓reduceIte, Nat.reduceEqDiff, Nat.reduceAdd, Nat.reduceSub, Nat.reduceMul, Nat.reduceLT, Nat.reduceLeDiff, Int.reduceLE, Int.reduceLT, Int.reduceAdd, Int.reduceSub, Int.reduceMul, Int.reduceEq, Int.reduceBEq, Int.reduceBNe, Int.reduceNeg, Int.reduceToNat, reduceCtorEq]
      refine ⟨(by unfold I64; omega), fun e3 => ?_, fun e3 => ?_⟩
      · rw [hfound (by simp [slotNeeds, e2, e3])]
      have hno : (decide (sh + 1 < b.days.length) && decide (lastsD Span.high b j ((lo : Int) - 1) < sh + 1)) = false := by simp; omega
      refine lp_all (fun q => [(0, .ptr (.own i 0)), (2, tv), (4, .ptr (.own h.length 0)), (7, .int .i64 j), (15, .int .i64 b.slots.length), (16, .int .i64 j), (48, v.fv), (49, .int .i64 b.defs.length), (50, .int .i64 q)]) (fun q => ∀ hq : q < b.defs.length, defIn ⟨lo, sh⟩ j b.defs[q] = false) b.defs.length rfl (fun q hq hall2 ih2 => ?_) (fun hall2 => ?_)
      · refine lp_step hmix L87_0_g [0, 2, 4, 7, 15, 16, 48, 49, 50] L87_0.eq_1 ?_
        have c1 := d2 q hq
        have c2 : ∀ L, rdn w0 (h ++ L) (dp.add (q * 3)) 3 = some b.defs[q].c := fun L => rdn_app (d3 q _ (by simp [hq]))
        have c3 : (q : Int) < b.defs.length := by omega
        have hyes : defIn ⟨lo, sh⟩ j b.defs[q] = true → neededD b ⟨lo, sh⟩ = j := fun e => hfound (by simp only [slotNeeds, Bool.or_eq_true, List.any_eq_true]; exact .inr ⟨_, List.getElem_mem hq, e⟩)
        simp only [go_sem, c1, c2, c3, ↓reduceIte, Nat.reduceEqDiff, Nat.reduceAdd, Nat.reduceSub, Nat.reduceMul, Nat.reduceLT, Nat.reduceLeDiff, Int.reduceLE, Int.reduceLT, Int.reduceAdd, Int.reduceSub, Int.reduceMul, Int.reduceEq, Int.reduceBEq, Int.reduceBNe, Int.reduceNeg, Int.reduceToNat, reduceCtorEq]
        refine ⟨fun x1 => ⟨fun x2 => ⟨fun x3 => ?_, fun x3 => ⟨(by unfold I64; omega), lp_drop 1 hb (by simp [HBs_some, HBs_none, HBs_nil, FB_cons, FB_nil, row_bdd, AV.bdds, AV.bdd, Pl.bdd, loop_bddT]) (by simp [HBs_some, HBs_none, HBs_nil, FB_cons, FB_nil, row_bdd, AV.bdds, AV.bdd, Pl.bdd, loop_bddT, hT.bdd, hR.defs.bdd]; omega) (ih2 fun _ => ?_)⟩⟩, fun x2 => ⟨(by unfold I64; omega), lp_drop 1 hb (by simp [HBs_some, HBs_none, HBs_nil, FB_cons, FB_nil, row_bdd, AV.bdds, AV.bdd, Pl.bdd, loop_bddT]) (by simp [HBs_some, HBs_none, HBs_nil, FB_cons, FB_nil, row_bdd, AV.bdds, AV.bdd, Pl.bdd, loop_bddT, hT.bdd, hR.defs.bdd]; omega) (ih2 fun _ => ?_)⟩⟩, fun x1 => ⟨(by unfold I64; omega), lp_drop 1 hb (by simp [HBs_some, HBs_none, HBs_nil, FB_cons, FB_nil, row_bdd, AV.bdds, AV.bdd, Pl.bdd, loop_bddT]) (by simp [HBs_some, HBs_none, HBs_nil, FB_cons, FB_nil, row_bdd, AV.bdds, AV.bdd, Pl.bdd, loop_bddT, hT.bdd, hR.defs.bdd]; omega) (ih2 fun _ => ?_)⟩⟩
        · rw [hyes (by simp [defIn, x1, x2, x3])]
        · simp [defIn]; omega
        · simp [defIn]; omega
        · simp [defIn]; omega
      · refine lp_step hmix L87_0_g [0, 2, 4, 7, 15, 16, 48, 49, 50] L87_0.eq_1 ?_
        have c3 : ¬ (b.defs.length : Int) < b.defs.length := by omega
        simp only [go_sem, c3, ↓reduceIte, Nat.reduceEqDiff, Nat.reduceAdd, Nat.reduceSub, Nat.reduceMul, Nat.reduceLT, Nat.reduceLeDiff, Int.reduceLE, Int.reduceLT, Int.reduceAdd, Int.reduceSub, Int.reduceMul, Int.reduceEq, Int.reduceBEq, Int.reduceBNe, Int.reduceNeg, Int.reduceToNat, reduceCtorEq]
        have hnone : slotNeeds b ⟨lo, sh⟩ j = false := by
          simp only [slotNeeds, hno, Bool.false_or]
          exact List.any_eq_false.2 fun x hx => by
            obtain ⟨q, hq, rfl⟩ := List.getElem_of_mem hx
            simp [hall2 q hq hq]
        exact ⟨(by unfold I64; omega), lp_drop 1 hb (by simp [HBs_some, HBs_none, HBs_nil, FB_cons, FB_nil, row_bdd, AV.bdds, AV.bdd, Pl.bdd, loop_bddT]) (by simp [HBs_some, HBs_none, HBs_nil, FB_cons, FB_nil, row_bdd, AV.bdds, AV.bdd, Pl.bdd, loop_bddT, hT.bdd]; omega) (ih hnone)⟩
    · have hno : (decide (sh + 1 < b.days.length) && decide (lastsD Span.high b j ((lo : Int) - 1) < sh + 1)) = false := by simp; omega
      refine lp_all (fun q => [(0, .ptr (.own i 0)), (2, tv), (4, .ptr (.own h.length 0)), (7, .int .i64 j), (15, .int .i64 b.slots.length), (16, .int .i64 j), (48, v.fv), (49, .int .i64 b.defs.length), (50, .int .i64 q)]) (fun q => ∀ hq : q < b.defs.length, defIn ⟨lo, sh⟩ j b.defs[q] = false) b.defs.length rfl (fun q hq hall2 ih2 => ?_) (fun hall2 => ?_)
      · refine lp_step hmix L87_0_g [0, 2, 4, 7, 15, 16, 48, 49, 50] L87_0.eq_1 ?_
        have c1 := d2 q hq
        have c2 : ∀ L, rdn w0 (h ++ L) (dp.add (q * 3)) 3 = some b.defs[q].c := fun L => rdn_app (d3 q _ (by simp [hq]))
        have c3 : (q : Int) < b.defs.length := by omega
        have hyes : defIn ⟨lo, sh⟩ j b.defs[q] = true → neededD b ⟨lo, sh⟩ = j := fun e => hfound (by simp only [slotNeeds, Bool.or_eq_true, List.any_eq_true]; exact .inr ⟨_, List.getElem_mem hq, e⟩)
        simp only [go_sem, c1, c2, c3, ↓reduceIte, Nat.reduceEqDiff, Nat.reduceAdd, Nat.reduceSub, Nat.reduceMul, Nat.reduceLT, Nat.reduceLeDiff, Int.reduceLE, Int.reduceLT, Int.reduceAdd, Int.reduceSub, Int.reduceMul, Int.reduceEq, Int.reduceBEq, Int.reduceBNe, Int.reduceNeg, Int.reduceToNat, reduceCtorEq]
        refine ⟨fun x1 => ⟨fun x2 => ⟨fun x3 => ?_, fun x3 => ⟨(by unfold I64; omega), lp_drop 1 hb (by simp [HBs_some, HBs_none, HBs_nil, FB_cons, FB_nil, row_bdd, AV.bdds, AV.bdd, Pl.bdd, loop_bddT]) (by simp [HBs_some, HBs_none, HBs_nil, FB_cons, FB_nil, row_bdd, AV.bdds, AV.bdd, Pl.bdd, loop_bddT, hT.bdd, hR.defs.bdd]; omega) (ih2 fun _ => ?_)⟩⟩, fun x2 => ⟨(by unfold I64; omega), lp_drop 1 hb (by simp [HBs_some, HBs_none, HBs_nil, FB_cons, FB_nil, row_bdd, AV.bdds, AV.bdd, Pl.bdd, loop_bddT]) (by simp [HBs_some, HBs_none, HBs_nil, FB_cons, FB_nil, row_bdd, AV.bdds, AV.bdd, Pl.bdd, loop_bddT, hT.bdd, hR.defs.bdd]; omega) (ih2 fun _ => ?_)⟩⟩, fun x1 => ⟨(by unfold I64; omega), lp_drop 1 hb (by simp [HBs_some, HBs_none, HBs_nil, FB_cons, FB_nil, row_bdd, AV.bdds, AV.bdd, Pl.bdd, loop_bddT]) (by simp [HBs_some, HBs_none, HBs_nil, FB_cons, FB_nil, row_bdd, AV.bdds, AV.bdd, Pl.bdd, loop_bddT, hT.bdd, hR.defs.bdd]; omega) (ih2 fun _ => ?_)⟩⟩
        · rw [hyes (by simp [defIn, x1, x2, x3])]
        · simp [defIn]; omega
        · simp [defIn]; omega
        · simp [defIn]; omega
      · refine lp_step hmix L87_0_g [0, 2, 4, 7, 15, 16, 48, 49, 50] L87_0.eq_1 ?_
        have c3 : ¬ (b.defs.length : Int) < b.defs.length := by omega
        simp only [go_sem, c3, ↓reduceIte, Nat.reduceEqDiff, Nat.reduceAdd, Nat.reduceSub, Nat.reduceMul, Nat.reduceLT, Nat.reduceLeDiff, Int.reduceLE, Int.reduceLT, Int.reduceAdd, Int.reduceSub, Int.reduceMul, Int.reduceEq, Int.reduceBEq, Int.reduceBNe, Int.reduceNeg, Int.reduceToNat, reduceCtorEq]
        have hnone : slotNeeds b ⟨lo, sh⟩ j = false := by
          simp only [slotNeeds, hno, Bool.false_or]
          exact List.any_eq_false.2 fun x hx => by
            obtain ⟨q, hq, rfl⟩ := List.getElem_of_mem hx
            simp [hall2 q hq hq]
        exact ⟨(by unfold I64; omega), lp_drop 1 hb (by simp [HBs_some, HBs_none, HBs_nil, FB_cons, FB_nil, row_bdd, AV.bdds, AV.bdd, Pl.bdd, loop_bddT]) (by simp [HBs_some, HBs_none, HBs_nil, FB_cons, FB_nil, row_bdd, AV.bdds, AV.bdd, Pl.bdd, loop_bddT, hT.bdd]; omega) (ih hnone)⟩
  · refine lp_step hmix L87_1_g [0, 2, 4, 15, 16] L87_1.eq_1 ?_
    have e1 : ¬ (b.slots.length : Int) < b.slots.length := by omega
    simp only [go_sem, e1, ↓reduceIte, Nat.reduceEqDiff, Nat.reduceAdd, Nat.reduceSub, Nat.reduceMul, Nat.reduceLT, Nat.reduceLeDiff, Int.reduceLE, Int.reduceLT, Int.reduceAdd, Int.reduceSub, Int.reduceMul, Int.reduceEq, Int.reduceBEq, Int.reduceBNe, Int.reduceNeg, Int.reduceToNat, reduceCtorEq]
    rw [neededD, idxOf_none fun i hi2 => by simpa using hall i (by simpa using hi2)]
end Go.Proofs.Ab

namespace Go.Proofs.Ab
open Go Go.Proofs
variable {w0 : World} {h : Heap}
attribute [local irreducible] ACall ACallV AYield DCall DCallV rvC rdC lp rg dr ex un rv rd'

def cmpS (a b : Span) : Int := if a.low ≠ b.low then a.low - b.low else a.high - b.high
def cmpL : List Span → List Span → Int
  | [], [] => 0
  | [], _ :: _ => -1
  | _ :: _, [] => 1
  | x :: xs, y :: ys => if cmpS x y ≠ 0 then cmpS x y else cmpL xs ys
def tiny (s : Span) : Prop := -1000000 ≤ s.low ∧ s.low ≤ 1000000 ∧ -1000000 ≤ s.high ∧ s.high ≤ 1000000
def earlierL (a b : List Span) : Bool := if a.length ≠ b.length then decide (b.length < a.length) else decide (cmpL a b < 0)

theorem cmpS_c (a b : Span) (at_ : tiny a) (bt : tiny b) : DCall Try.prog w0 119 [.agg a.c, .agg b.c] h (.int .i64 (cmpS a b)) h := by
  refine DCall_quiet hmix mf119_ok mf119_b mf119_g (Nat.le_of_ble_eq_true rfl) (by simp [AV.bdd, AV.bdds]) fun hb ha => ex_in ?_
  simp only [tiny] at at_ bt
  simp only [go_sem, mf119, ↓reduceIte, Nat.reduceEqDiff, Nat.reduceAdd, Nat.reduceSub, Nat.reduceMul, Nat.reduceLT, Nat.reduceLeDiff, Int.reduceLE, Int.reduceLT, Int.reduceAdd, Int.reduceSub, Int.reduceMul, Int.reduceEq, Int.reduceBEq, Int.reduceBNe, Int.reduceNeg, Int.reduceToNat, reduceCtorEq]
  refine ⟨fun e => ⟨(by unfold I64; omega), by simp [cmpS, e]⟩, fun e => ⟨(by unfold I64; omega), by simp [cmpS, e]⟩⟩

theorem cmpL_drop (a b : List Span) (j : Nat) (hj : j ≤ a.length) (hj2 : j ≤ b.length) (hall : ∀ i (h1 : i < a.length) (h2 : i < b.length), i < j → cmpS a[i] b[i] = 0) : cmpL a b = cmpL (a.drop j) (b.drop j) := by
  induction j generalizing a b with
  | zero => rfl
  | succ j ih =>
    cases a with
    | nil => simp at hj
    | cons x xs =>
      cases b with
      | nil => simp at hj2
      | cons y ys =>
        have h0 := hall 0 (by simp) (by simp) (by omega)
        simp only [List.getElem_cons_zero] at h0
        simp only [cmpL, h0, ne_eq, not_true_eq_false, if_false, List.drop_succ_cons]
        refine ih xs ys (by simpa using hj) (by simpa using hj2) fun i h1 h2 hi => ?_
        have := hall (i + 1) (by simpa using h1) (by simpa using h2) (by omega)
        simpa using this

theorem cmpL_c (a b : List Span) (va vb f : AV) (hva : Sl w0 h 2 va (a.map Span.c)) (hvb : Sl w0 h 2 vb (b.map Span.c)) (ha : ∀ x ∈ a, tiny x) (hb : ∀ x ∈ b, tiny x) (hn : a.length < 1000000) (hn2 : b.length < 1000000)
    (hf : ∀ (x y : Span) (L : Heap), tiny x → tiny y → DCallV Try.prog w0 f [.agg x.c, .agg y.c] (h ++ L) (.int .i64 (cmpS x y)) (h ++ L)) :
    DCall Try.prog w0 118 [va, vb, f] h (.int .i64 (cmpL a b)) h := by
  rename ∀ x ∈ b, tiny x => hbt
  refine DCall_quiet hmix mf118_ok mf118_b mf118_g (Nat.le_of_ble_eq_true rfl) (by simp [AV.bdd, AV.bdds]) fun hb ha => ex_in ?_
  obtain ⟨ln1, q1, ix1, row1, _⟩ := hva.use
  obtain ⟨ln2, q2, ix2, row2, _⟩ := hvb.use
  simp only [List.length_map] at ln1 ln2 ix1 ix2
  have hfb : f.bdd h.length := by simp only [AV.bdds] at ha; exact ha.2.2.1
  rename ∀ x ∈ a, tiny x => hat
  simp only [go_sem, mf118, ln1, ↓reduceIte, Nat.reduceEqDiff, Nat.reduceAdd, Nat.reduceSub, Nat.reduceMul, Nat.reduceLT, Nat.reduceLeDiff, Int.reduceLE, Int.reduceLT, Int.reduceAdd, Int.reduceSub, Int.reduceMul, Int.reduceEq, Int.reduceBEq, Int.reduceBNe, Int.reduceNeg, Int.reduceToNat, reduceCtorEq]
  refine lp_all (fun j => [(0, va), (1, vb), (2, f), (11, va), (12, .int .i64 a.length), (13, .int .i64 j)]) (fun j => ∃ (h1 : j < a.length) (h2 : j < b.length), cmpS a[j] b[j] = 0) a.length rfl (fun j hj hi ih => ?_) (fun hi => ?_)
  · refine lp_step hmix L118_0_g [0, 1, 2, 11, 12, 13] L118_0.eq_1 ?_
    have e1 := ix1 j hj
    have e2 : ∀ L, rdn w0 (h ++ L) (q1.add (j * 2)) 2 = some a[j].c := fun L => rdn_app (row1 j _ (by simp [hj]))
    have e3 : (j : Int) < a.length := by omega
    have hjb : j ≤ b.length := by
      rcases Nat.eq_zero_or_pos j with e | e
      · omega
      · obtain ⟨_, h2, _⟩ := hi (j - 1) (by omega)
        omega
    have hd := cmpL_drop a b j (by omega) hjb fun i h1 h2 hij => by
      obtain ⟨_, _, e⟩ := hi i hij; exact e
    simp only [go_sem, e1, e2, e3, ln2, ↓reduceIte, Nat.reduceEqDiff, Nat.reduceAdd, Nat.reduceSub, Nat.reduceMul, Nat.reduceLT, Nat.reduceLeDiff, Int.reduceLE, Int.reduceLT, Int.reduceAdd, Int.reduceSub, Int.reduceMul, Int.reduceEq, Int.reduceBEq, Int.reduceBNe, Int.reduceNeg, Int.reduceToNat, reduceCtorEq]
    refine ⟨fun e => ?_, fun e => ?_⟩
    · rw [hd, List.drop_eq_getElem_cons hj, show b.drop j = [] from List.drop_eq_nil_of_le (by omega)]; rfl
    · have hjb : j < b.length := by omega
      have e4 := ix2 j hjb
      have e5 : ∀ L, rdn w0 (h ++ L) (q2.add (j * 2)) 2 = some b[j].c := fun L => rdn_app (row2 j _ (by simp [hjb]))
      simp only [go_sem, e4, e5, ↓reduceIte, Nat.reduceEqDiff, Nat.reduceAdd, Nat.reduceSub, Nat.reduceMul, Nat.reduceLT, Nat.reduceLeDiff, Int.reduceLE, Int.reduceLT, Int.reduceAdd, Int.reduceSub, Int.reduceMul, Int.reduceEq, Int.reduceBEq, Int.reduceBNe, Int.reduceNeg, Int.reduceToNat, reduceCtorEq]
      refine rvC_use (hf a[j] b[j] _ (hat _ (List.getElem_mem hj)) (hbt _ (List.getElem_mem hjb))) ?_
      simp only [go_sem, ↓reduceIte, Nat.reduceEqDiff, Nat.reduceAdd, Nat.reduceSub, Nat.reduceMul, Nat.reduceLT, Nat.reduceLeDiff, Int.reduceLE, Int.reduceLT, Int.reduceAdd, Int.reduceSub, Int.reduceMul, Int.reduceEq, Int.reduceBEq, Int.reduceBNe, Int.reduceNeg, Int.reduceToNat, reduceCtorEq]
      have hd2 : cmpL a b = if cmpS a[j] b[j] ≠ 0 then cmpS a[j] b[j] else cmpL (a.drop (j + 1)) (b.drop (j + 1)) := by
        rw [hd, List.drop_eq_getElem_cons hj, List.drop_eq_getElem_cons hjb]; rfl
      refine ⟨fun e => by rw [hd2, if_pos e], fun e => ⟨(by unfold I64; omega), lp_drop 0 hb (by simp [HBs_some, HBs_none, HBs_nil, FB_cons, FB_nil, row_bdd, AV.bdds, AV.bdd, Pl.bdd, loop_bddT]) (by simp [HBs_some, HBs_none, HBs_nil, FB_cons, FB_nil, row_bdd, AV.bdds, AV.bdd, Pl.bdd, loop_bddT, hva.bdd, hvb.bdd, hfb]) (by simpa using ih ⟨hj, hjb, e⟩)⟩⟩
  · refine lp_step hmix L118_0_g [0, 1, 2, 11, 12, 13] L118_0.eq_1 ?_
    have e3 : ¬ (a.length : Int) < a.length := by omega
    have hjb : a.length ≤ b.length := by
      rcases Nat.eq_zero_or_pos a.length with e | e
      · omega
      · obtain ⟨_, h2, _⟩ := hi (a.length - 1) (by omega)
        omega
    have hd := cmpL_drop a b a.length (by omega) hjb fun i h1 h2 hij => by
      obtain ⟨_, _, e⟩ := hi i hij; exact e
    rw [List.drop_eq_nil_of_le (Nat.le_refl _)] at hd
    simp only [go_sem, e3, ln1, ln2, ↓reduceIte, Nat.reduceEqDiff, Nat.reduceAdd, Nat.reduceSub, Nat.reduceMul, Nat.reduceLT, Nat.reduceLeDiff, Int.reduceLE, Int.reduceLT, Int.reduceAdd, Int.reduceSub, Int.reduceMul, Int.reduceEq, Int.reduceBEq, Int.reduceBNe, Int.reduceNeg, Int.reduceToNat, reduceCtorEq]
    refine ⟨fun e => ?_, fun e => ?_⟩
    · rw [hd, List.drop_eq_getElem_cons (show a.length < b.length by omega)]; rfl
    · rw [hd, show b.drop a.length = [] from List.drop_eq_nil_of_le (by omega)]; rfl

theorem earlier_c (a b : List Span) (va vb : AV) (hva : Sl w0 h 2 va (a.map Span.c)) (hvb : Sl w0 h 2 vb (b.map Span.c)) (ha : ∀ x ∈ a, tiny x) (hb : ∀ x ∈ b, tiny x) (hn : a.length < 1000000) (hn2 : b.length < 1000000) :
    DCall Try.prog w0 89 [va, vb] h (.bool (earlierL a b)) h := by
  rename ∀ x ∈ b, tiny x => hbt
  rename ∀ x ∈ a, tiny x => hat
  refine DCall_quiet hmix mf89_ok mf89_b mf89_g (Nat.le_of_ble_eq_true rfl) (by simp [AV.bdd, AV.bdds]) fun hb ha => ex_in ?_
  obtain ⟨ln1, q1, ix1, row1, _⟩ := hva.use
  obtain ⟨ln2, q2, ix2, row2, _⟩ := hvb.use
  simp only [List.length_map] at ln1 ln2
  simp only [go_sem, mf89, ln1, ln2, ↓reduceIte, Nat.reduceEqDiff, Nat.reduceAdd, Nat.reduceSub, Nat.reduceMul, Nat.reduceLT, Nat.reduceLeDiff, Int.reduceLE, Int.reduceLT, Int.reduceAdd, Int.reduceSub, Int.reduceMul, Int.reduceEq, Int.reduceBEq, Int.reduceBNe, Int.reduceNeg, Int.reduceToNat, reduceCtorEq]
  refine ⟨fun e => ?_, fun e => ?_⟩
  · have : a.length ≠ b.length := by omega
    simp [earlierL, this]
  · have : a.length = b.length := by omega
    refine rvC_use (cmpL_c a b va vb _ hva.app hvb.app hat hbt hn hn2 fun x y L hx hy => by simpa using (cmpS_c x y hx hy).v).v ?_
    simp only [go_sem, ↓reduceIte, Nat.reduceEqDiff, Nat.reduceAdd, Nat.reduceSub, Nat.reduceMul, Nat.reduceLT, Nat.reduceLeDiff, Int.reduceLE, Int.reduceLT, Int.reduceAdd, Int.reduceSub, Int.reduceMul, Int.reduceEq, Int.reduceBEq, Int.reduceBNe, Int.reduceNeg, Int.reduceToNat, reduceCtorEq]
    simp [earlierL, this]

theorem better_c (a b : List Span) (va vb : AV) (hva : Sl w0 h 2 va (a.map Span.c)) (hvb : Sl w0 h 2 vb (b.map Span.c)) (ha : ∀ x ∈ a, tiny x) (hb : ∀ x ∈ b, tiny x) (hn : a.length < 1000000) (hn2 : b.length < 1000000) :
    DCall Try.prog w0 88 [va, vb, .fn (.func 89) [] []] h (if earlierL b a then vb else va) h := by
  rename ∀ x ∈ b, tiny x => hbt
  rename ∀ x ∈ a, tiny x => hat
  refine DCall_quiet hmix mf88_ok mf88_b mf88_g (Nat.le_of_ble_eq_true rfl) (by split; exact hvb.bdd (Nat.le_refl _); exact hva.bdd (Nat.le_refl _)) fun hb ha => ex_in ?_
  simp only [go_sem, mf88, ↓reduceIte, Nat.reduceEqDiff, Nat.reduceAdd, Nat.reduceSub, Nat.reduceMul, Nat.reduceLT, Nat.reduceLeDiff, Int.reduceLE, Int.reduceLT, Int.reduceAdd, Int.reduceSub, Int.reduceMul, Int.reduceEq, Int.reduceBEq, Int.reduceBNe, Int.reduceNeg, Int.reduceToNat, reduceCtorEq]
  refine rvC_use (earlier_c b a vb va hvb.app hva.app hbt hat hn2 hn).v ?_
  simp only [go_sem, ↓reduceIte, Nat.reduceEqDiff, Nat.reduceAdd, Nat.reduceSub, Nat.reduceMul, Nat.reduceLT, Nat.reduceLeDiff, Int.reduceLE, Int.reduceLT, Int.reduceAdd, Int.reduceSub, Int.reduceMul, Int.reduceEq, Int.reduceBEq, Int.reduceBNe, Int.reduceNeg, Int.reduceToNat, reduceCtorEq]
  exact ⟨fun e => by simp [e], fun e => by simp [e]⟩
end Go.Proofs.Ab

/- The own layer under the proofs of this seat, part T: what calls of the program come to on an abstract heap. No condition. -/
import Derived.Test.YtammfjjepbekaaaX
import Derived.Test.YtammfjjepbekaaaZ
set_option linter.unusedSimpArgs false
set_option linter.unusedVariables false
namespace Go.Proofs.Ab
open Go Go.Proofs
variable {w0 : World} {h : Heap}
attribute [local irreducible] ACall ACallV AYield DCall DCallV rvC rdC lp rg dr ex un rv rd'

def nightsP : List (List Int) → Nat
  | [] => 0
  | l :: t => min 1 l.length + nightsP t
def changesP : List (List Int) → Nat
  | [] => 0
  | l :: t => l.length + changesP t
theorem nightsP_snoc {l : List Int} : ∀ {t : List (List Int)}, nightsP (t ++ [l]) = nightsP t + min 1 l.length
  | [] => by simp [nightsP]
  | a :: t => by simp only [List.cons_append, nightsP, nightsP_snoc (t := t)]; omega
theorem changesP_snoc {l : List Int} : ∀ {t : List (List Int)}, changesP (t ++ [l]) = changesP t + l.length
  | [] => by simp [changesP]
  | a :: t => by simp only [List.cons_append, changesP, changesP_snoc (t := t)]; omega
theorem nightsP_le : ∀ t : List (List Int), nightsP t ≤ t.length
  | [] => by simp [nightsP]
  | a :: t => by have := nightsP_le t; simp only [nightsP, List.length_cons]; omega
theorem changesP_le {B : Nat} : ∀ t : List (List Int), (∀ l ∈ t, l.length ≤ B) → changesP t ≤ t.length * B
  | [], _ => by simp [changesP]
  | a :: t, h => by
    have := changesP_le t fun l hl => h l (List.mem_cons_of_mem _ hl)
    have := h a List.mem_cons_self
    simp only [changesP, List.length_cons, Nat.succ_mul]; omega

theorem cost_c (t : List (List Int)) (pv : AV) (hP : LL w0 h pv t) (htl : t.length < 1000000) (hll : ∀ l ∈ t, l.length < 1000000) : DCall Try.prog w0 38 [pv] h (.tup [.int .i64 (nightsP t), .int .i64 (changesP t)]) h := by
  refine DCall_quiet hmix mf38_ok mf38_b mf38_g (Nat.le_of_ble_eq_true rfl) (by simp [AV.bdd, AV.bdds]) fun hb ha => ex_in ?_
  have lpv := hP.len
  simp only [go_sem, mf38, ↓reduceIte, Nat.reduceEqDiff, Nat.reduceAdd, Nat.reduceSub, Nat.reduceMul, Nat.reduceLT, Nat.reduceLeDiff, Int.reduceLE, Int.reduceLT, Int.reduceAdd, Int.reduceSub, Int.reduceMul, Int.reduceEq, Int.reduceBEq, Int.reduceBNe, Int.reduceNeg, Int.reduceToNat, reduceCtorEq]
  refine lp_for (S := Unit) (fun j _ => [(0, pv), (4, .int .i64 (nightsP (t.take j))), (5, .int .i64 (changesP (t.take j))), (6, .int .i64 j)]) (fun _ _ => h) (fun _ _ => True) t.length () trivial (by simp [nightsP, changesP]) (by simp) (fun j _ hj _ ih => ?_) (fun _ _ => ?_)
  · refine lp_step hmix L38_0_g [0, 4, 5, 6] L38_0.eq_1 ?_
    obtain ⟨p, x, i1, i2, i3⟩ := hP.list hj
    have i2' := i2 []
    rw [List.append_nil] at i2'
    have i4 := (SlI.use i3).1
    have i5 : (j : Int) < t.length := by omega
    have ih := ih () trivial
    have h1 := nightsP_le (t.take j)
    have h2 := changesP_le (B := 1000000) (t.take j) fun l hl => by have := hll l (List.mem_of_mem_take hl); omega
    have h3 := hll _ (List.getElem_mem hj)
    have h4 : (t.take j).length = j := by simp; omega
    rw [take_succ' hj, nightsP_snoc, changesP_snoc] at ih
    rw [h4] at h1 h2
    simp only [go_sem, lpv, i5, i1, i2', i4, ↓reduceIte, Nat.reduceEqDiff, Nat.reduceAdd, Nat.reduceSub, Nat.reduceMul, Nat.reduceLT, Nat.reduceLeDiff, Int.reduceLE, Int.reduceLT, Int.reduceAdd, Int.reduceSub, Int.reduceMul, Int.reduceEq, Int.reduceBEq, Int.reduceBNe, Int.reduceNeg, Int.reduceToNat, reduceCtorEq]
    refine ⟨fun e => ?_, fun e => ?_⟩
    · have hm : min 1 t[j].length = 1 := by omega
      rw [hm] at ih
      exact ⟨(by unfold I64; omega), (by unfold I64; omega), (by unfold I64; omega), by simpa [Int.natCast_add] using ih⟩
    · have hm : min 1 t[j].length = 0 := by omega
      rw [hm] at ih
      exact ⟨(by unfold I64; omega), (by unfold I64; omega), by simpa [Int.natCast_add] using ih⟩
  · refine lp_step hmix L38_0_g [0, 4, 5, 6] L38_0.eq_1 ?_
    have i5 : ¬ (t.length : Int) < t.length := by omega
    rw [List.take_of_length_le (Nat.le_refl _)]
    simp only [go_sem, lpv, i5, ↓reduceIte, Nat.reduceEqDiff, Nat.reduceAdd, Nat.reduceSub, Nat.reduceMul, Nat.reduceLT, Nat.reduceLeDiff, Int.reduceLE, Int.reduceLT, Int.reduceAdd, Int.reduceSub, Int.reduceMul, Int.reduceEq, Int.reduceBEq, Int.reduceBNe, Int.reduceNeg, Int.reduceToNat, reduceCtorEq]
    exact ⟨rfl, [], (List.append_nil _).symm⟩

def lexP : List (List Int) → List (List Int) → Bool
  | a :: t, c :: u => if lessI a c || lessI c a then lessI a c else lexP t u
  | _, _ => false
def lessP (a c : List (List Int)) : Bool :=
  if nightsP a ≠ nightsP c then decide (nightsP a < nightsP c) else if changesP a ≠ changesP c then decide (changesP a < changesP c) else lexP a c
theorem lexP_drop : ∀ (j : Nat) (a c : List (List Int)), j ≤ a.length → j ≤ c.length → (∀ i (h1 : i < a.length) (h2 : i < c.length), i < j → (lessI a[i] c[i] || lessI c[i] a[i]) = false) → lexP a c = lexP (a.drop j) (c.drop j)
  | 0, _, _, _, _, _ => rfl
  | j + 1, [], _, h, _, _ => by simp at h
  | j + 1, _ :: _, [], _, h, _ => by simp at h
  | j + 1, x :: a, y :: c, h1, h2, h3 => by
    have h0 := h3 0 (by simp) (by simp) (by omega)
    simp only [List.getElem_cons_zero] at h0
    simp only [lexP, h0, Bool.false_eq_true, if_false, List.drop_succ_cons]
    refine lexP_drop j a c (by simpa using h1) (by simpa using h2) fun i q1 q2 hi => ?_
    have := h3 (i + 1) (by simpa using q1) (by simpa using q2) (by omega)
    simpa using this

theorem lessP_c (a c : List (List Int)) (va vc : AV) (hva : LL w0 h va a) (hvc : LL w0 h vc c) (hn : a.length < 1000000) (hn2 : c.length < 1000000) (ha1 : ∀ l ∈ a, l.length < 1000000) (hc1 : ∀ l ∈ c, l.length < 1000000) :
    DCall Try.prog w0 35 [va, vc] h (.bool (lessP a c)) h := by
  refine DCall_quiet hmix mf35_ok mf35_b mf35_g (Nat.le_of_ble_eq_true rfl) (by simp [AV.bdd, AV.bdds]) fun hb ha => ex_in ?_
  have ln1 := hva.len
  have ln2 := hvc.len
  simp only [go_sem, mf35, ↓reduceIte, Nat.reduceEqDiff, Nat.reduceAdd, Nat.reduceSub, Nat.reduceMul, Nat.reduceLT, Nat.reduceLeDiff, Int.reduceLE, Int.reduceLT, Int.reduceAdd, Int.reduceSub, Int.reduceMul, Int.reduceEq, Int.reduceBEq, Int.reduceBNe, Int.reduceNeg, Int.reduceToNat, reduceCtorEq]
  refine rvC_use (cost_c a va hva.app hn ha1).v ?_
  simp only [go_sem, ↓reduceIte, Nat.reduceEqDiff, Nat.reduceAdd, Nat.reduceSub, Nat.reduceMul, Nat.reduceLT, Nat.reduceLeDiff, Int.reduceLE, Int.reduceLT, Int.reduceAdd, Int.reduceSub, Int.reduceMul, Int.reduceEq, Int.reduceBEq, Int.reduceBNe, Int.reduceNeg, Int.reduceToNat, reduceCtorEq]
  refine rvC_use (cost_c c vc hvc.app hn2 hc1).v ?_
  simp only [go_sem, ↓reduceIte, Nat.reduceEqDiff, Nat.reduceAdd, Nat.reduceSub, Nat.reduceMul, Nat.reduceLT, Nat.reduceLeDiff, Int.reduceLE, Int.reduceLT, Int.reduceAdd, Int.reduceSub, Int.reduceMul, Int.reduceEq, Int.reduceBEq, Int.reduceBNe, Int.reduceNeg, Int.reduceToNat, reduceCtorEq]
  refine ⟨fun e => ?_, fun e => ?_⟩
  · have e' : nightsP a ≠ nightsP c := fun x => by rw [x] at e; simp at e
    have e2 : ((nightsP a : Int) < nightsP c) = (nightsP a < nightsP c) := by simp only [eq_iff_iff]; omega
    simp [lessP, e', e2]
  have e0 : nightsP a = nightsP c := by have : (nightsP a : Int) = nightsP c := by simpa using e
                                        omega
  refine ⟨fun e => ?_, fun e => ?_⟩
  · have e' : changesP a ≠ changesP c := fun x => by rw [x] at e; simp at e
    have e2 : ((changesP a : Int) < changesP c) = (changesP a < changesP c) := by simp only [eq_iff_iff]; omega
    simp [lessP, e0, e', e2]
  have e1 : changesP a = changesP c := by have : (changesP a : Int) = changesP c := by simpa using e
                                          omega
  have hl : lessP a c = lexP a c := by simp [lessP, e0, e1]
  rw [hl]
  refine lp_all (fun j => [(0, va), (1, vc), (9, .int .i64 j)]) (fun j => ∃ (h1 : j < a.length) (h2 : j < c.length), (lessI a[j] c[j] || lessI c[j] a[j]) = false) (min a.length c.length) rfl (fun j hj hi ih => ?_) (fun hi => ?_)
  · refine lp_step hmix L35_0_g [0, 1, 9] L35_0.eq_1 ?_
    have hja : j < a.length := by omega
    have hjc : j < c.length := by omega
    obtain ⟨p1, x1, i1, r1, s1⟩ := hva.list hja
    obtain ⟨p2, x2, i2, r2, s2⟩ := hvc.list hjc
    have e3 : (j : Int) < a.length := by omega
    have e4 : (j : Int) < c.length := by omega
    have hd := lexP_drop j a c (by omega) (by omega) fun i h1 h2 hij => by
      obtain ⟨_, _, e⟩ := hi i hij; exact e
    rw [List.drop_eq_getElem_cons hja, List.drop_eq_getElem_cons hjc] at hd
    simp only [lexP] at hd
    have b1 := ha1 _ (List.getElem_mem hja)
    have b2 := hc1 _ (List.getElem_mem hjc)
    simp only [go_sem, e3, e4, ln1, ln2, i1, r1, i2, r2, ↓reduceIte, Nat.reduceEqDiff, Nat.reduceAdd, Nat.reduceSub, Nat.reduceMul, Nat.reduceLT, Nat.reduceLeDiff, Int.reduceLE, Int.reduceLT, Int.reduceAdd, Int.reduceSub, Int.reduceMul, Int.reduceEq, Int.reduceBEq, Int.reduceBNe, Int.reduceNeg, Int.reduceToNat, reduceCtorEq]
    refine rdC_q (lessI_c a[j] c[j] x1 x2 (Sl.app s1) (Sl.app s2) b1).v ?_
    simp only [go_sem, i1, r1, i2, r2, ↓reduceIte, Nat.reduceEqDiff, Nat.reduceAdd, Nat.reduceSub, Nat.reduceMul, Nat.reduceLT, Nat.reduceLeDiff, Int.reduceLE, Int.reduceLT, Int.reduceAdd, Int.reduceSub, Int.reduceMul, Int.reduceEq, Int.reduceBEq, Int.reduceBNe, Int.reduceNeg, Int.reduceToNat, reduceCtorEq]
    refine ⟨fun e => ?_, fun e => ?_⟩
    · refine rdC_q (lessI_c c[j] a[j] x2 x1 (Sl.app s2) (Sl.app s1) b2).v ?_
      simp only [go_sem, i1, r1, i2, r2, ↓reduceIte, Nat.reduceEqDiff, Nat.reduceAdd, Nat.reduceSub, Nat.reduceMul, Nat.reduceLT, Nat.reduceLeDiff, Int.reduceLE, Int.reduceLT, Int.reduceAdd, Int.reduceSub, Int.reduceMul, Int.reduceEq, Int.reduceBEq, Int.reduceBNe, Int.reduceNeg, Int.reduceToNat, reduceCtorEq]
      refine ⟨fun e2 => ?_, fun e2 => ⟨(by unfold I64; omega), ih ⟨hja, hjc, by simp [e, e2]⟩⟩⟩
      refine rdC_q (lessI_c a[j] c[j] x1 x2 (Sl.app s1) (Sl.app s2) b1).v ?_
      simp only [go_sem, ↓reduceIte, Nat.reduceEqDiff, Nat.reduceAdd, Nat.reduceSub, Nat.reduceMul, Nat.reduceLT, Nat.reduceLeDiff, Int.reduceLE, Int.reduceLT, Int.reduceAdd, Int.reduceSub, Int.reduceMul, Int.reduceEq, Int.reduceBEq, Int.reduceBNe, Int.reduceNeg, Int.reduceToNat, reduceCtorEq]
      simp [hd, e2]
    · refine rdC_q (lessI_c a[j] c[j] x1 x2 (Sl.app s1) (Sl.app s2) b1).v ?_
      simp only [go_sem, ↓reduceIte, Nat.reduceEqDiff, Nat.reduceAdd, Nat.reduceSub, Nat.reduceMul, Nat.reduceLT, Nat.reduceLeDiff, Int.reduceLE, Int.reduceLT, Int.reduceAdd, Int.reduceSub, Int.reduceMul, Int.reduceEq, Int.reduceBEq, Int.reduceBNe, Int.reduceNeg, Int.reduceToNat, reduceCtorEq]
      simp [hd, e]
  · refine lp_step hmix L35_0_g [0, 1, 9] L35_0.eq_1 ?_
    have hd := lexP_drop (min a.length c.length) a c (by omega) (by omega) fun i h1 h2 hij => by
      obtain ⟨_, _, e⟩ := hi i hij; exact e
    have hfalse : lexP (a.drop (min a.length c.length)) (c.drop (min a.length c.length)) = false := by
      by_cases hle : a.length ≤ c.length
      · rw [show a.drop (min a.length c.length) = [] from List.drop_eq_nil_of_le (by omega)]; rfl
      · rw [show c.drop (min a.length c.length) = [] from List.drop_eq_nil_of_le (by omega)]; cases a.drop (min a.length c.length) <;> rfl
    rw [hd, hfalse]
    by_cases hle : a.length ≤ c.length
    · have e3 : ¬ ((min a.length c.length : Nat) : Int) < a.length := by omega
      simp only [go_sem, e3, ln1, ln2, ↓reduceIte, Nat.reduceEqDiff, Nat.reduceAdd, Nat.reduceSub, Nat.reduceMul, Nat.reduceLT, Nat.reduceLeDiff, Int.reduceLE, Int.reduceLT, Int.reduceAdd, Int.reduceSub, Int.reduceMul, Int.reduceEq, Int.reduceBEq, Int.reduceBNe, Int.reduceNeg, Int.reduceToNat, reduceCtorEq]
    · have e3 : ((min a.length c.length : Nat) : Int) < a.length := by omega
      have e4 : ¬ ((min a.length c.length : Nat) : Int) < c.length := by omega
      simp only [go_sem, e3, e4, ln1, ln2, ↓reduceIte, Nat.reduceEqDiff, Nat.reduceAdd, Nat.reduceSub, Nat.reduceMul, Nat.reduceLT, Nat.reduceLeDiff, Int.reduceLE, Int.reduceLT, Int.reduceAdd, Int.reduceSub, Int.reduceMul, Int.reduceEq, Int.reduceBEq, Int.reduceBNe, Int.reduceNeg, Int.reduceToNat, reduceCtorEq]
end Go.Proofs.Ab

namespace Go.Proofs.Ab
open Go

theorem cmpI_trans {a b c : Int} (h1 : 0 ≤ cmpI a b) (h2 : 0 ≤ cmpI b c) : 0 ≤ cmpI a c := by
  simp only [cmpI] at *
  repeat' split at h1
  all_goals repeat' split at h2
  all_goals repeat' split
  all_goals omega
theorem cmpN_trans : ∀ a b c : List Int, 0 ≤ cmpN a b → 0 ≤ cmpN b c → 0 ≤ cmpN a c
  | [], [], c, _, h2 => h2
  | [], _ :: _, _, h1, _ => by simp [cmpN] at h1
  | _ :: _, [], [], h1, _ => h1
  | _ :: _, [], _ :: _, _, h2 => by simp [cmpN] at h2
  | x :: a, y :: b, [], _, _ => by simp [cmpN]
  | x :: a, y :: b, z :: c, h1, h2 => by
    have ih := cmpN_trans a b c
    simp only [cmpN, cmpI] at *
    rcases Int.lt_trichotomy x y with e1 | e1 | e1
    · simp [e1, show ¬ y < x by omega] at h1
    · subst e1
      simp at h1
      rcases Int.lt_trichotomy x z with e2 | e2 | e2
      · simp [e2, show ¬ z < x by omega] at h2
      · subst e2
        simp at h2 ⊢
        exact ih h1 h2
      · simp [e2, show ¬ x < z by omega]
    · rcases Int.lt_trichotomy y z with e2 | e2 | e2
      · simp [e2, show ¬ z < y by omega] at h2
      · subst e2
        simp [e1, show ¬ x < y by omega]
      · simp [show z < x by omega, show ¬ x < z by omega]
theorem cmpN_refl (a : List Int) : cmpN a a = 0 := (cmpN_eq a a).2 rfl

theorem lessC_iff {a b : ChD} : lessC a b = true ↔ (a.ok = true ∧ b.ok = false) ∨ (a.ok = b.ok ∧ (a.nights < b.nights ∨ (a.nights = b.nights ∧ (a.changes < b.changes ∨ (a.changes = b.changes ∧ cmpN a.list b.list < 0))))) := by
  unfold lessC
  cases ha : a.ok <;> cases hb : b.ok <;> simp <;> (try (by_cases e1 : a.nights = b.nights <;> by_cases e2 : a.changes = b.changes <;> simp [e1, e2] <;> omega))
theorem lessC_trans {a b c : ChD} (h1 : lessC a b = false) (h2 : lessC b c = false) : lessC a c = false := by
  rw [← Bool.not_eq_true, lessC_iff] at *
  have t := cmpN_trans a.list b.list c.list
  cases ha : a.ok <;> cases hb : b.ok <;> cases hc : c.ok <;> simp [ha, hb, hc] at h1 h2 ⊢ <;> omega
theorem lessC_asymm {a b : ChD} (h1 : lessC a b = true) : lessC b a = false := by
  rw [← Bool.not_eq_true]
  rw [lessC_iff] at *
  have t := cmpN_symm a.list b.list
  cases ha : a.ok <;> cases hb : b.ok <;> simp [ha, hb] at h1 ⊢ <;> omega
theorem lessC_irr {a : ChD} : lessC a a = false := by
  rw [← Bool.not_eq_true, lessC_iff]
  have t := cmpN_refl a.list
  simp [t]
end Go.Proofs.Ab

namespace Go.Proofs.Ab
open Go

theorem sorted_eq : ∀ {a c : List Int}, a.Pairwise (· < ·) → c.Pairwise (· < ·) → (∀ x, x ∈ a ↔ x ∈ c) → a = c
  | [], [], _, _, _ => rfl
  | [], y :: c, _, _, h => by have := (h y).2 List.mem_cons_self; cases this
  | x :: a, [], _, _, h => by have := (h x).1 List.mem_cons_self; cases this
  | x :: a, y :: c, h1, h2, h => by
    obtain ⟨p1, p2⟩ := List.pairwise_cons.1 h1
    obtain ⟨q1, q2⟩ := List.pairwise_cons.1 h2
    have hxy : x = y := by
      rcases List.mem_cons.1 ((h x).1 List.mem_cons_self) with e | e
      · exact e
      · rcases List.mem_cons.1 ((h y).2 List.mem_cons_self) with e' | e'
        · exact e'.symm
        · have := q1 x e; have := p1 y e'; omega
    subst hxy
    congr 1
    refine sorted_eq p2 q2 fun z => ⟨fun hz => ?_, fun hz => ?_⟩
    · rcases List.mem_cons.1 ((h z).1 (List.mem_cons_of_mem _ hz)) with e | e
      · subst e; have := p1 z hz; omega
      · exact e
    · rcases List.mem_cons.1 ((h z).2 (List.mem_cons_of_mem _ hz)) with e | e
      · subst e; have := q1 z hz; omega
      · exact e
theorem choiceB_iff {b : BayD} {l : List Int} : choiceB b l = true ↔ (∀ x ∈ l, 0 ≤ x ∧ x < b.slots.length) ∧ l.Pairwise (· < ·) := by
  constructor
  · intro h
    refine ⟨choiceB_nat h, ?_⟩
    simp only [choiceB, List.all_eq_true, List.mem_range] at h
    rw [List.pairwise_iff_getElem]
    intro i j hi hj hij
    have step : ∀ k, (hk : k + 1 < l.length) → l[k] < l[k + 1] := fun k hk => by
      have := h (k + 1) hk
      simp only [choiceK, Bool.and_eq_true, Bool.not_eq_true', Nat.add_sub_cancel, getD_at hk, getD_at (show k < l.length by omega)] at this
      have h2 := this.2
      simpa using h2
    obtain ⟨m, rfl⟩ : ∃ m, j = i + 1 + m := ⟨j - (i + 1), by omega⟩
    clear hij
    induction m with
    | zero => exact step i hj
    | succ m ih =>
      have := ih (by omega)
      exact Int.lt_trans (this step) (step (i + 1 + m) (by omega))
  · rintro ⟨h1, h2⟩
    simp only [choiceB, List.all_eq_true, List.mem_range]
    intro k hk
    have hx := h1 l[k] (List.getElem_mem hk)
    have e1 : inB (l.getD k 0) 0 (b.slots.length - 1) = true := by
      rw [getD_at hk]; simp only [inB, Bool.and_eq_true, decide_eq_true_eq]; omega
    rw [choiceK, e1, Bool.true_and]
    by_cases h0 : 0 < k
    · have := List.pairwise_iff_getElem.1 h2 (k - 1) k (by omega) hk (by omega)
      rw [getD_at hk, getD_at (show k - 1 < l.length by omega)]
      have : ¬ l[k] ≤ l[k - 1] := by omega
      simp [this]
    · simp [h0]
theorem mem_listed {bits : Nat} {x : Int} : x ∈ listedD bits ↔ ∃ s : Nat, s < 5 ∧ bits.testBit s = true ∧ x = (s : Int) := by
  simp only [listedD, bitsL, List.mem_map, List.mem_filter, List.mem_range, beq_iff_eq]
  constructor
  · rintro ⟨s, ⟨h1, h2⟩, rfl⟩
    exact ⟨s, h1, by rw [Nat.testBit_eq_decide_div_mod_eq]; simpa using h2, rfl⟩
  · rintro ⟨s, h1, h2, rfl⟩
    exact ⟨s, ⟨h1, by rw [Nat.testBit_eq_decide_div_mod_eq] at h2; simpa using h2⟩, rfl⟩
theorem listed_sorted (bits : Nat) : (listedD bits).Pairwise (· < ·) := by
  simp only [listedD, bitsL]
  rw [List.pairwise_map]
  refine List.Pairwise.filter _ ?_
  exact List.pairwise_lt_range.imp fun {a c} h => by simp only [Int.ofNat_eq_natCast]; omega
theorem listed_choice {b : BayD} {bits : Nat} (h : bits < 2 ^ b.slots.length) : choiceB b (listedD bits) = true := by
  refine choiceB_iff.2 ⟨fun x hx => ?_, listed_sorted bits⟩
  obtain ⟨s, h1, h2, rfl⟩ := mem_listed.1 hx
  refine ⟨by omega, ?_⟩
  have := Nat.ge_two_pow_of_testBit h2
  rcases Nat.lt_or_ge s b.slots.length with e | e
  · omega
  · have := Nat.pow_le_pow_right (n := 2) (by omega) e; omega
theorem choice_listed {b : BayD} (hN : b.slots.length ≤ 5) {c : List Int} (h : choiceB b c = true) : ∃ bits, bits < 2 ^ b.slots.length ∧ listedD bits = c := by
  obtain ⟨h1, h2⟩ := choiceB_iff.1 h
  obtain ⟨bits, hb⟩ : ∃ bits : Nat, ∀ i, bits.testBit i = c.any fun x => x.toNat == i := by
    clear h1 h2 h
    induction c with
    | nil => exact ⟨0, by simp⟩
    | cons x c ih =>
      obtain ⟨m, hm⟩ := ih
      refine ⟨m ||| 2 ^ x.toNat, fun i => ?_⟩
      rw [Nat.testBit_or, hm, Nat.testBit_two_pow, List.any_cons, Bool.or_comm]
      congr 1
  refine ⟨bits, ?_, ?_⟩
  · refine Nat.lt_pow_two_of_testBit _ fun i hi => ?_
    rw [hb, List.any_eq_false]
    intro x hx
    have := h1 x hx
    simp; omega
  · refine sorted_eq (listed_sorted bits) h2 fun x => ?_
    rw [mem_listed]
    constructor
    · rintro ⟨s, hs, hbs, rfl⟩
      rw [hb, List.any_eq_true] at hbs
      obtain ⟨y, hy, e⟩ := hbs
      have := h1 y hy
      have e : y.toNat = s := by simpa using e
      have : y = (s : Int) := by omega
      exact this ▸ hy
    · intro hx
      have := h1 x hx
      exact ⟨x.toNat, by omega, by rw [hb, List.any_eq_true]; exact ⟨x, hx, by simp⟩, by omega⟩

theorem fold_min {α : Type} (P : α → Bool) (f : α → ChD) (step : ChD → α → ChD) (hs : ∀ cur a, step cur a = if P a = true then (if lessC (f a) cur = true then f a else cur) else cur) :
    ∀ (l : List α) (cur : ChD), (l.foldl step cur = cur ∨ ∃ a ∈ l, P a = true ∧ l.foldl step cur = f a) ∧ (∀ a ∈ l, P a = true → lessC (f a) (l.foldl step cur) = false) ∧ lessC cur (l.foldl step cur) = false
  | [], cur => ⟨.inl rfl, (fun a ha => by cases ha), lessC_irr⟩
  | a :: l, cur => by
    obtain ⟨h1, h2, h3⟩ := fold_min P f step hs l (step cur a)
    simp only [List.foldl_cons]
    have hst := hs cur a
    have hle : lessC cur (step cur a) = false := by
      rw [hst]
      split
      · split
        · rename_i e; exact lessC_asymm e
        · exact lessC_irr
      · exact lessC_irr
    have hfa : P a = true → lessC (f a) (step cur a) = false := fun hp => by
      rw [hst, if_pos hp]
      split
      · exact lessC_irr
      · rename_i e; simpa using e
    refine ⟨?_, fun x hx hp => ?_, lessC_trans hle h3⟩
    · rcases h1 with h1 | ⟨x, hx, hp, h1⟩
      · rw [h1, hst]
        split
        · rename_i hp
          split
          · exact .inr ⟨a, List.mem_cons_self, hp, rfl⟩
          · exact .inl rfl
        · exact .inl rfl
      · exact .inr ⟨x, List.mem_cons_of_mem _ hx, hp, h1⟩
    · rcases List.mem_cons.1 hx with rfl | hx
      · exact lessC_trans (hfa hp) h3
      · exact h2 x hx hp
end Go.Proofs.Ab

namespace Go.Proofs.Ab
open Go

def goesT (b : BayD) : Nat → Nat → List Int → List (List Int) → Prop
  | 0, _, _, [] => True
  | k + 1, n, p, c :: t => choiceB b c = true ∧ allowD b n p c = true ∧ goesT b k (n + 1) (putD n p (c.map Int.toNat)) t
  | _, _, _, _ => False
def candC (b : BayD) (k n : Nat) (p : List Int) (c : List Int) : ChD :=
  ⟨(searchD b k (n + 1) (putD n p (c.map Int.toNat))).nights + min 1 c.length, (searchD b k (n + 1) (putD n p (c.map Int.toNat))).changes + c.length, c, true⟩
def candP (b : BayD) (k n : Nat) (p : List Int) (c : List Int) : Bool := allowD b n p c && (searchD b k (n + 1) (putD n p (c.map Int.toNat))).ok
theorem searchD_spec {b : BayD} (hN : b.slots.length ≤ 5) (k n : Nat) (p : List Int) :
    (searchD b (k + 1) n p = ⟨0, 0, [], false⟩ ∨ ∃ c, choiceB b c = true ∧ candP b k n p c = true ∧ searchD b (k + 1) n p = candC b k n p c) ∧ (∀ c, choiceB b c = true → candP b k n p c = true → lessC (candC b k n p c) (searchD b (k + 1) n p) = false) := by
  obtain ⟨h1, h2, _⟩ := fold_min (fun bits => candP b k n p (listedD bits)) (fun bits => candC b k n p (listedD bits)) (stepS b (searchD b k (n + 1)) n p) (fun cur a => rfl) (List.range (2 ^ b.slots.length)) ⟨0, 0, [], false⟩
  refine ⟨?_, fun c hc hp => ?_⟩
  · rcases h1 with h1 | ⟨a, ha, hp, h1⟩
    · exact .inl h1
    · exact .inr ⟨listedD a, listed_choice (List.mem_range.1 ha), hp, h1⟩
  · obtain ⟨bits, hb, rfl⟩ := choice_listed hN hc
    exact h2 bits (List.mem_range.2 hb) hp

theorem lessI_asymm {a c : List Int} (h : lessI a c = true) : lessI c a = false := by
  simp only [lessI, decide_eq_true_eq, decide_eq_false_iff_not] at *
  have := cmpN_symm a c; omega
theorem lessI_irr (a : List Int) : lessI a a = false := by simp [lessI, cmpN_refl]
theorem lessI_ne {a c : List Int} (h1 : lessI a c = false) (h2 : lessI c a = false) : a = c := by
  have := same_eq a c
  rw [h1, h2] at this
  simpa using this.symm
theorem lexP_irr : ∀ t : List (List Int), lexP t t = false
  | [] => rfl
  | a :: t => by simp [lexP, lessI_irr, lexP_irr t]

theorem search_best {b : BayD} (hN : b.slots.length ≤ 5) : ∀ (k n : Nat) (p : List Int),
    ((searchD b k n p).ok = true → goesT b k n p (planG b k n p) ∧ (nightsP (planG b k n p) : Int) = (searchD b k n p).nights ∧ (changesP (planG b k n p) : Int) = (searchD b k n p).changes) ∧
    ∀ t, goesT b k n p t → (searchD b k n p).ok = true ∧ lessP t (planG b k n p) = false
  | 0, n, p => by
    refine ⟨fun _ => ⟨trivial, rfl, rfl⟩, fun t ht => ⟨rfl, ?_⟩⟩
    cases t with
    | nil => rfl
    | cons => exact ht.elim
  | k + 1, n, p => by
    obtain ⟨h1, h2⟩ := searchD_spec hN k n p
    have hok : (searchD b (k + 1) n p).ok = true → ∃ c, choiceB b c = true ∧ candP b k n p c = true ∧ searchD b (k + 1) n p = candC b k n p c := fun h => by
      rcases h1 with h1 | h1
      · rw [h1] at h; cases h
      · exact h1
    have hgood : (searchD b (k + 1) n p).ok = true → goesT b (k + 1) n p (planG b (k + 1) n p) ∧ (nightsP (planG b (k + 1) n p) : Int) = (searchD b (k + 1) n p).nights ∧ (changesP (planG b (k + 1) n p) : Int) = (searchD b (k + 1) n p).changes := fun h => by
      obtain ⟨c, hc, hp, e⟩ := hok h
      have hp2 := hp
      simp only [candP, Bool.and_eq_true] at hp2
      obtain ⟨g1, g2, g3⟩ := (search_best hN k (n + 1) (putD n p (c.map Int.toNat))).1 hp2.2
      have el : (searchD b (k + 1) n p).list = c := by rw [e]; rfl
      simp only [planG, el]
      refine ⟨⟨hc, hp2.1, g1⟩, ?_, ?_⟩
      · rw [e]; simp only [nightsP, candC, Int.natCast_add, g2]; omega
      · rw [e]; simp only [changesP, candC, Int.natCast_add, g3]; omega
    refine ⟨hgood, fun t ht => ?_⟩
    cases t with
    | nil => exact ht.elim
    | cons c t =>
      obtain ⟨t1, t2, t3⟩ := ht
      obtain ⟨s1, s2⟩ := (search_best hN k (n + 1) (putD n p (c.map Int.toNat))).2 t t3
      obtain ⟨r1, r2, r3⟩ := (search_best hN k (n + 1) (putD n p (c.map Int.toNat))).1 s1
      have hp : candP b k n p c = true := by simp [candP, t2, s1]
      have hl := h2 c t1 hp
      have hokk : (searchD b (k + 1) n p).ok = true := by
        cases hq : (searchD b (k + 1) n p).ok with
        | true => rfl
        | false =>
          rw [← Bool.not_eq_true, lessC_iff] at hl
          exact absurd (.inl ⟨rfl, hq⟩) hl
      refine ⟨hokk, ?_⟩
      obtain ⟨g1, g2, g3⟩ := hgood hokk
      obtain ⟨c2, hc2, hp2, e2⟩ := hok hokk
      have el : (searchD b (k + 1) n p).list = c2 := by rw [e2]; rfl
      rw [← Bool.not_eq_true, lessC_iff, hokk] at hl
      simp only [candC, el, reduceCtorEq, and_false, false_or, true_and] at hl
      have hlow : nightsP (planG b k (n + 1) (putD n p (c.map Int.toNat))) < nightsP t ∨ (nightsP (planG b k (n + 1) (putD n p (c.map Int.toNat))) = nightsP t ∧ (changesP (planG b k (n + 1) (putD n p (c.map Int.toNat))) < changesP t ∨ (changesP (planG b k (n + 1) (putD n p (c.map Int.toNat))) = changesP t ∧ lexP t (planG b k (n + 1) (putD n p (c.map Int.toNat))) = false))) := by
        simp only [lessP] at s2
        split at s2
        · rename_i e; simp at s2; omega
        · rename_i e
          split at s2
          · rename_i e'; simp at s2; omega
          · exact .inr ⟨by omega, .inr ⟨by omega, s2⟩⟩
      have hn1 : nightsP (c :: t) = min 1 c.length + nightsP t := rfl
      have hc1 : changesP (c :: t) = c.length + changesP t := rfl
      have hpl : planG b (k + 1) n p = c2 :: planG b k (n + 1) (putD n p (c2.map Int.toNat)) := by simp only [planG, el]
      simp only [lessP]
      split
      · rename_i e; simp only [decide_eq_false_iff_not]; omega
      · rename_i e
        split
        · rename_i e'; simp only [decide_eq_false_iff_not]; omega
        · rename_i e'
          rw [hpl]
          have hcmp : ¬ cmpN c c2 < 0 := by omega
          have hI : lessI c c2 = false := by simp [lessI]; omega
          simp only [lexP, hI, Bool.false_or]
          split
          · rfl
          · rename_i e4
            have hcc : c = c2 := lessI_ne hI (by simpa using e4)
            subst hcc
            rcases hlow with h | ⟨_, h | ⟨_, h⟩⟩
            · omega
            · omega
            · exact h
end Go.Proofs.Ab

namespace Go.Proofs.Ab
open Go

theorem putD_get {n : Nat} : ∀ {c : List Nat} {p : List Int} {s : Nat}, s < p.length → (putD n p c).getD s 0 = if (c.any fun x => x == s) = true then (n : Int) else p.getD s 0
  | [], p, s, _ => by simp [putD]
  | x :: c, p, s, hs => by
    have ih := putD_get (n := n) (c := c) (p := p.set x n) (s := s) (by simpa using hs)
    simp only [putD, List.foldl_cons] at ih ⊢
    rw [ih]
    by_cases e : x = s
    · subst e
      simp [List.getD_eq_getElem?_getD, List.getElem?_set_self hs]
    · have : (p.set x (n : Int)).getD s 0 = p.getD s 0 := by rw [List.getD_eq_getElem?_getD, List.getElem?_set_ne e, ← List.getD_eq_getElem?_getD]
      rw [this, List.any_cons, beq_eq_false_iff_ne.2 e, Bool.false_or]
theorem putR_ge {b : BayD} {t : List (List Int)} (hnn : ∀ n, ∀ x ∈ t.getD n [], 0 ≤ x) {s : Nat} (hs : s < b.slots.length) {lo : Nat} : ∀ n, (lo : Int) ≤ (putR b t n).getD s 0 ↔ ∃ e, lo ≤ e ∧ e < n ∧ ((t.getD e []).any fun y => y == (s : Int)) = true
  | 0 => by
    rw [putR, getD_at (by simpa using hs)]
    simp only [List.getElem_replicate]
    constructor
    · intro h; omega
    · rintro ⟨e, _, h, _⟩; omega
  | n + 1 => by
    have ih := putR_ge hnn hs (lo := lo) n
    rw [putR, putD_get (by rw [putR_len]; exact hs), any_nat (hnn n)]
    by_cases h : ((t.getD n []).any fun y => y == (s : Int)) = true
    · rw [if_pos h]
      constructor
      · intro h2; exact ⟨n, by omega, by omega, h⟩
      · rintro ⟨e, h1, h2, _⟩; omega
    · rw [if_neg h, ih]
      constructor
      · rintro ⟨e, h1, h2, h3⟩; exact ⟨e, h1, by omega, h3⟩
      · rintro ⟨e, h1, h2, h3⟩
        refine ⟨e, h1, ?_, h3⟩
        rcases Nat.lt_or_ge e n with h4 | h4
        · exact h4
        · have : e = n := by omega
          subst this; exact absurd h3 h

theorem allow_fault {b : BayD} (hB : bayB b = true) {t : List (List Int)} (hT : planB b t = true) {n : Nat} (hn : n < b.days.length) {p : List Int} (hp : p.length = 5) (hpt : p.take b.slots.length = putR b t n) :
    allowD b n p (t.getD n []) = true ↔ faultR b t n (putR b t n) = none := by
  have bs := bayB_spec hB
  have ht : t.length = b.days.length := by simp only [planB, Bool.and_eq_true, beq_iff_eq] at hT; exact hT.1
  have hpg : ∀ s, s < b.slots.length → p.getD s 0 = (putR b t n).getD s 0 := fun s hs => by
    rw [← hpt, List.getD_eq_getElem?_getD, List.getD_eq_getElem?_getD, List.getElem?_take_of_lt hs]
  have hpb := putR_bd (b := b) (t := t) n
  have hover : (List.range b.slots.length).all (fun s => !decide (lastsD Span.high b s (p.getD s 0) < n)) = true ↔ ¬ (0 : Int) ≤ overR b n (putR b t n) := by
    have hge := idxOf_ge (fun s => !(withinB Span.high (kindOf b s) (afterD b s ((putR b t n).getD s 0) n))) (List.range b.slots.length)
    rw [show idxOf (fun s => !(withinB Span.high (kindOf b s) (afterD b s ((putR b t n).getD s 0) n))) (List.range b.slots.length) = overR b n (putR b t n) from rfl] at hge
    rw [← decide_eq_false_iff_not, hge, List.any_eq_false, List.all_eq_true]
    refine forall_congr' fun s => forall_congr' fun hs => ?_
    rw [List.mem_range] at hs
    have h1 := hpb ((putR b t n)[s]'(by rw [putR_len]; exact hs)) (List.getElem_mem _)
    rw [hpg s hs, getD_at (by rw [putR_len]; exact hs), Bool.not_eq_true', decide_eq_false_iff_not, lastsD_lt end_high hB hs h1.1 h1.2 hn]
    simp
  have hdef : b.defs.all (defOk n p (t.getD n [])) = true ↔ ¬ (0 : Int) ≤ defR b t n := by
    have hge := idxOf_ge (fun d => (d.nights.high == (n : Int)) && !(changedD t d.slot d.nights.low d.nights.high)) b.defs
    rw [show idxOf (fun d => (d.nights.high == (n : Int)) && !(changedD t d.slot d.nights.low d.nights.high)) b.defs = defR b t n from rfl] at hge
    rw [← decide_eq_false_iff_not, hge, List.any_eq_false, List.all_eq_true]
    refine forall_congr' fun d => forall_congr' fun hd => ?_
    have q := bs.2.2.2.2.2.2.2.2.2.2.2.2.2 d hd
    simp only [defB, spanB, inB, Bool.and_eq_true, decide_eq_true_eq] at q
    by_cases e : d.nights.high = (n : Int)
    · obtain ⟨sl, hsl⟩ : ∃ sl : Nat, d.slot = sl := ⟨d.slot.toNat, by omega⟩
      obtain ⟨lo, hlo⟩ : ∃ lo : Nat, d.nights.low = lo := ⟨d.nights.low.toNat, by omega⟩
      have hs : sl < b.slots.length := by omega
      have hch := changedD_iff (t := t) (x := (sl : Int)) (lo := lo) (n := n) (by omega) (by omega)
      have hput := putR_ge (b := b) (t := t) (fun n x hx => (choiceB_nn hT n x hx).1) hs (lo := lo) n
      have hany : ((t.getD n []).any fun y => (sl : Int) == y) = ((t.getD n []).any fun y => y == (sl : Int)) := by
        congr 1; funext y; rw [Bool.beq_comm]
      have e1 : (d.nights.high == (n : Int)) = true := by simp [e]
      simp only [defOk, e1, Bool.true_and, hsl, Int.toNat_natCast, hlo, hany, hpg sl hs]
      rw [e]
      cases hq : (t.getD n []).any fun y => y == (sl : Int) with
      | true =>
        have : changedD t (sl : Int) lo n = true := hch.2 ⟨n, by omega, by omega, hq⟩
        simp [this]
      | false =>
        have hiff : changedD t (sl : Int) lo n = true ↔ (lo : Int) ≤ (putR b t n).getD sl 0 := by
          rw [hch, hput]
          constructor
          · rintro ⟨i, h1, h2, h3⟩
            refine ⟨i, h1, ?_, h3⟩
            rcases Nat.eq_or_lt_of_le h2 with h4 | h4
            · subst h4; rw [hq] at h3; cases h3
            · exact h4
          · rintro ⟨i, h1, h2, h3⟩; exact ⟨i, h1, by omega, h3⟩
        by_cases hm : max ((putR b t n).getD sl 0) (-1) < (lo : Int)
        · have : ¬ changedD t (sl : Int) lo n = true := fun x => by have := hiff.1 x; omega
          simp only [Bool.not_eq_true] at this
          rw [decide_eq_true hm, this]; simp
        · have : changedD t (sl : Int) lo n = true := hiff.2 (by omega)
          rw [decide_eq_false hm, this]; simp
    · have e1 : (d.nights.high == (n : Int)) = false := by simp [e]
      simp [defOk, e1]
  simp only [allowD, Bool.and_eq_true, Bool.not_eq_true', Bool.or_eq_false_iff, decide_eq_false_iff_not]
  rw [hover, hdef]
  unfold faultR
  constructor
  · rintro ⟨⟨h1, h2, h3⟩, h4⟩
    rw [if_neg h1, h2, if_neg (by simp), if_neg (by omega), if_neg h4]
  · intro h
    split at h
    · cases h
    rename_i h1
    split at h
    · cases h
    rename_i h2
    split at h
    · cases h
    rename_i h3
    split at h
    · cases h
    rename_i h4
    exact ⟨⟨h1, by simpa using h2, by omega⟩, h4⟩

theorem goes_plan {b : BayD} : ∀ (k n : Nat) (p : List Int) (t : List (List Int)), goesT b k n p t → t.length = k ∧ ∀ l ∈ t, choiceB b l = true
  | 0, _, _, [], _ => ⟨rfl, fun l hl => by cases hl⟩
  | k + 1, n, p, c :: t, ⟨h1, _, h3⟩ => by
    obtain ⟨g1, g2⟩ := goes_plan k (n + 1) _ t h3
    refine ⟨by simp [g1], fun l hl => ?_⟩
    rcases List.mem_cons.1 hl with rfl | hl
    · exact h1
    · exact g2 l hl
  | 0, _, _, _ :: _, h => h.elim
  | _ + 1, _, _, [], h => h.elim
theorem goes_planB {b : BayD} {t : List (List Int)} (h : goesT b b.days.length 0 [-1, -1, -1, -1, -1] t) : planB b t = true := by
  obtain ⟨h1, h2⟩ := goes_plan _ _ _ _ h
  simp only [planB, Bool.and_eq_true, beq_iff_eq, List.all_eq_true]
  exact ⟨h1, h2⟩
theorem goes_fault {b : BayD} (hB : bayB b = true) {t : List (List Int)} (hT : planB b t = true) : ∀ (k n : Nat) (p : List Int), n + k = b.days.length → p.length = 5 → p.take b.slots.length = putR b t n →
    (goesT b k n p (t.drop n) ↔ ∀ j, j < k → faultR b t (n + j) (putR b t (n + j)) = none)
  | 0, n, p, hk, hp, hpt => by
    have ht : t.length = b.days.length := by simp only [planB, Bool.and_eq_true, beq_iff_eq] at hT; exact hT.1
    rw [List.drop_eq_nil_of_le (by omega)]
    exact ⟨fun _ j hj => by omega, fun _ => trivial⟩
  | k + 1, n, p, hk, hp, hpt => by
    have ht : t.length = b.days.length := by simp only [planB, Bool.and_eq_true, beq_iff_eq] at hT; exact hT.1
    have hnt : n < t.length := by omega
    have gt := getD_at (d := ([] : List Int)) hnt
    have ih := goes_fault hB hT k (n + 1) (putD n p (t[n].map Int.toNat)) (by omega) (by rw [putD_len, hp]) (by rw [putD_take, hpt, putR, gt])
    have hal := allow_fault hB hT (n := n) (by omega) hp hpt
    rw [gt] at hal
    have hcb : choiceB b t[n] = true := by
      simp only [planB, Bool.and_eq_true, List.all_eq_true] at hT; exact hT.2 _ (List.getElem_mem hnt)
    rw [List.drop_eq_getElem_cons hnt]
    simp only [goesT]
    rw [ih, hal]
    constructor
    · rintro ⟨_, h1, h2⟩ j hj
      cases j with
      | zero => exact h1
      | succ j => have := h2 j (by omega); rwa [show n + 1 + j = n + (j + 1) by omega] at this
    · intro h
      refine ⟨hcb, h 0 (by omega), fun j hj => ?_⟩
      have := h (j + 1) (by omega)
      rwa [show n + (j + 1) = n + 1 + j by omega] at this
theorem rightR_all {b : BayD} {t : List (List Int)} : ∀ (k n : Nat), (∀ j, j < k → faultR b t (n + j) (putR b t (n + j)) = none) → rightR b t k n (putR b t n) = (0, 1, 0)
  | 0, _, _ => rfl
  | k + 1, n, h => by
    simp only [rightR]
    rw [show faultR b t n (putR b t n) = none from h 0 (by omega)]
    exact rightR_all k (n + 1) fun j hj => by have := h (j + 1) (by omega); rwa [show n + (j + 1) = n + 1 + j by omega] at this
theorem goes_right {b : BayD} (hB : bayB b = true) {t : List (List Int)} (hT : planB b t = true) : goesT b b.days.length 0 [-1, -1, -1, -1, -1] t ↔ (rightD b t).2.1 = 1 := by
  have bs := bayB_spec hB
  have e : ∀ N, N ≤ 5 → ([-1, -1, -1, -1, -1] : List Int).take N = List.replicate N (-1) := fun N hN => by
    match N, hN with
    | 0, _ => rfl
    | 1, _ => rfl
    | 2, _ => rfl
    | 3, _ => rfl
    | 4, _ => rfl
    | 5, _ => rfl
  have h := goes_fault hB hT b.days.length 0 [-1, -1, -1, -1, -1] (by omega) rfl (e _ (by omega))
  rw [List.drop_zero] at h
  rw [h]
  constructor
  · intro h1
    have := rightR_all b.days.length 0 h1
    rw [rightD_eq hB hT]
    rw [show List.replicate b.slots.length (-1) = putR b t 0 from rfl, this]
  · intro h1 j hj
    rw [Nat.zero_add]; exact right_fine hB hT h1 hj
end Go.Proofs.Ab

namespace Go.Proofs.Ab
open Go Go.Proofs
variable {w0 : World} {h : Heap}
attribute [local irreducible] ACall ACallV AYield DCall DCallV rvC rdC lp rg dr ex un rv rd'

theorem planG_bd {b : BayD} : ∀ (k n : Nat) (p : List Int), ∀ l ∈ planG b k n p, l.length < 1000000
  | 0, _, _, l, hl => by simp [planG] at hl
  | k + 1, n, p, l, hl => by
    simp only [planG, List.mem_cons] at hl
    rcases hl with rfl | hl
    · have := (searchD_ok b (k + 1) n p).2.2.2.2; omega
    · exact planG_bd k _ _ l hl
theorem planG_len {b : BayD} : ∀ (k n : Nat) (p : List Int), (planG b k n p).length = k
  | 0, _, _ => rfl
  | k + 1, n, p => by simp [planG, planG_len k]

theorem WearFewest_c (b : BayD) (v : BayV) (t : List (List Int)) (pv : AV) (hS : BayS w0 h b v) (hP : LL w0 h pv t) (hl : t.length ≤ 9223372036854775807) : DCall Try.prog w0 7 [.agg (bayC b v), pv] h (.bool true) h := by
  refine DCall_forget trivial (ACall_sx hmix mf7_ok mf7_b mf7_g (Nat.le_of_ble_eq_true rfl) fun hb ha => ex_in ?_)
  have o1 := hS.kinds.one.1
  have o2 := hS.slots.one.1
  have o3 := hS.days.one.1
  have o4 := hS.nights.one.1
  have o5 := hS.defs.one.1
  have fin : ∀ L, HSub h (h ++ L) := fun L => HSub.refl.app
  simp only [go_sem, mf7, o1, o2, o3, o4, o5, ↓reduceIte, Nat.reduceEqDiff, Nat.reduceAdd, Nat.reduceSub, Nat.reduceMul, Nat.reduceLT, Nat.reduceLeDiff, Int.reduceLE, Int.reduceLT, Int.reduceAdd, Int.reduceSub, Int.reduceMul, Int.reduceEq, Int.reduceBEq, Int.reduceBNe, Int.reduceNeg, Int.reduceToNat, reduceCtorEq]
  refine rvC_use (small_c b v 4 10 hS.app).v ?_
  simp only [go_sem, ↓reduceIte, Nat.reduceEqDiff, Nat.reduceAdd, Nat.reduceSub, Nat.reduceMul, Nat.reduceLT, Nat.reduceLeDiff, Int.reduceLE, Int.reduceLT, Int.reduceAdd, Int.reduceSub, Int.reduceMul, Int.reduceEq, Int.reduceBEq, Int.reduceBNe, Int.reduceNeg, Int.reduceToNat, reduceCtorEq]
  refine ⟨fun e1 => ?_, fun e1 => ?_⟩
  rotate_left
  · refine rvC_use known_c.v ?_
    simp only [go_sem, ↓reduceIte, Nat.reduceEqDiff, Nat.reduceAdd, Nat.reduceSub, Nat.reduceMul, Nat.reduceLT, Nat.reduceLeDiff, Int.reduceLE, Int.reduceLT, Int.reduceAdd, Int.reduceSub, Int.reduceMul, Int.reduceEq, Int.reduceBEq, Int.reduceBNe, Int.reduceNeg, Int.reduceToNat, reduceCtorEq]
    exact fin _
  have hsh : shortB b = true := by simp only [smallB, Bool.and_eq_true] at e1; exact e1.1
  have hR := hS.R hsh
  refine rvC_use (rbay_c b v hR.app).v ?_
  simp only [go_sem, ↓reduceIte, Nat.reduceEqDiff, Nat.reduceAdd, Nat.reduceSub, Nat.reduceMul, Nat.reduceLT, Nat.reduceLeDiff, Int.reduceLE, Int.reduceLT, Int.reduceAdd, Int.reduceSub, Int.reduceMul, Int.reduceEq, Int.reduceBEq, Int.reduceBNe, Int.reduceNeg, Int.reduceToNat, reduceCtorEq]
  refine ⟨fun eb => ?_, fun eb => ?_⟩
  rotate_left
  · refine rvC_use known_c.v ?_
    simp only [go_sem, ↓reduceIte, Nat.reduceEqDiff, Nat.reduceAdd, Nat.reduceSub, Nat.reduceMul, Nat.reduceLT, Nat.reduceLeDiff, Int.reduceLE, Int.reduceLT, Int.reduceAdd, Int.reduceSub, Int.reduceMul, Int.reduceEq, Int.reduceBEq, Int.reduceBNe, Int.reduceNeg, Int.reduceToNat, reduceCtorEq]
    exact fin _
  refine rvC_use (brief_c t pv hP.app hl).v ?_
  simp only [go_sem, ↓reduceIte, Nat.reduceEqDiff, Nat.reduceAdd, Nat.reduceSub, Nat.reduceMul, Nat.reduceLT, Nat.reduceLeDiff, Int.reduceLE, Int.reduceLT, Int.reduceAdd, Int.reduceSub, Int.reduceMul, Int.reduceEq, Int.reduceBEq, Int.reduceBNe, Int.reduceNeg, Int.reduceToNat, reduceCtorEq]
  refine ⟨fun e2 => ?_, fun e2 => ?_⟩
  rotate_left
  · refine rvC_use known_c.v ?_
    simp only [go_sem, ↓reduceIte, Nat.reduceEqDiff, Nat.reduceAdd, Nat.reduceSub, Nat.reduceMul, Nat.reduceLT, Nat.reduceLeDiff, Int.reduceLE, Int.reduceLT, Int.reduceAdd, Int.reduceSub, Int.reduceMul, Int.reduceEq, Int.reduceBEq, Int.reduceBNe, Int.reduceNeg, Int.reduceToNat, reduceCtorEq]
    exact fin _
  have htl : t.length < 1000000 := by
    simp only [briefB, Bool.and_eq_true, decide_eq_true_eq] at e2; omega
  have hll : ∀ l ∈ t, l.length < 1000000 := fun l hl => by
    simp only [briefB, Bool.and_eq_true, decide_eq_true_eq, List.all_eq_true] at e2
    have := e2.1 l hl; omega
  refine rvC_use (rplans_c b v t pv hR.app hP.app htl hll).v ?_
  simp only [go_sem, ↓reduceIte, Nat.reduceEqDiff, Nat.reduceAdd, Nat.reduceSub, Nat.reduceMul, Nat.reduceLT, Nat.reduceLeDiff, Int.reduceLE, Int.reduceLT, Int.reduceAdd, Int.reduceSub, Int.reduceMul, Int.reduceEq, Int.reduceBEq, Int.reduceBNe, Int.reduceNeg, Int.reduceToNat, reduceCtorEq]
  refine ⟨fun ep => ?_, fun ep => ?_⟩
  · refine rvC_use known_c.v ?_
    simp only [go_sem, ↓reduceIte, Nat.reduceEqDiff, Nat.reduceAdd, Nat.reduceSub, Nat.reduceMul, Nat.reduceLT, Nat.reduceLeDiff, Int.reduceLE, Int.reduceLT, Int.reduceAdd, Int.reduceSub, Int.reduceMul, Int.reduceEq, Int.reduceBEq, Int.reduceBNe, Int.reduceNeg, Int.reduceToNat, reduceCtorEq]
    exact fin _
  have bs := bayB_spec eb
  have hgr := goes_right eb ep
  obtain ⟨sb1, sb2⟩ := search_best (b := b) (by omega) b.days.length 0 [-1, -1, -1, -1, -1]
  refine rvC_post (ACall.vc (first := []) (args := [.agg (bayC b v)]) (Plan_c b v hR.app)) ?_
  rintro y H1 ⟨hs1, hK⟩
  rw [if_pos eb] at hK
  have b1 : ∀ L, (H1 ++ L)[h.length]? = some (some (.row (bayC b v))) := fun L => getElem?_app_left (hs1.2 _ _ (by simp [bayC]))
  have b1' := b1 []
  rw [List.append_nil] at b1'
  have hs2 : HSub h H1 := HSub.trans HSub.refl.app hs1
  have hR1 := hR.sub hs2
  have hP1 := hP.sub hs2
  have fin1 : ∀ L, HSub h (H1 ++ L) := fun L => hs2.app
  have hRt : ∀ L, DCall Try.prog w0 21 [.agg (bayC b v), pv] (H1 ++ L) (RightV b t) (H1 ++ L) := fun L => Right_c b v t pv hR1.app hP1.app htl hll
  have hRt' := hRt []
  rw [List.append_nil, RightV, if_pos (by rw [eb, ep]; rfl)] at hRt'
  by_cases hok : (searchD b b.days.length 0 [-1, -1, -1, -1, -1]).ok = true
  · rw [if_pos hok] at hK
    obtain ⟨x, rfl, hx⟩ := hK
    obtain ⟨g1, _⟩ := sb1 hok
    have hpB : planB b (planD b) = true := goes_planB g1
    have hfine := (goes_right eb hpB).1 g1
    have hpl : (planD b).length < 1000000 := by rw [planD, planG_len]; omega
    have hpb := planG_bd (b := b) b.days.length 0 [-1, -1, -1, -1, -1]
    simp only [go_sem, b1', ↓reduceIte, Nat.reduceEqDiff, Nat.reduceAdd, Nat.reduceSub, Nat.reduceMul, Nat.reduceLT, Nat.reduceLeDiff, Int.reduceLE, Int.reduceLT, Int.reduceAdd, Int.reduceSub, Int.reduceMul, Int.reduceEq, Int.reduceBEq, Int.reduceBNe, Int.reduceNeg, Int.reduceToNat, reduceCtorEq]
    refine rvC_use hRt'.v ?_
    simp only [go_sem, bne_self_eq_false, b1, ↓reduceIte, Nat.reduceEqDiff, Nat.reduceAdd, Nat.reduceSub, Nat.reduceMul, Nat.reduceLT, Nat.reduceLeDiff, Int.reduceLE, Int.reduceLT, Int.reduceAdd, Int.reduceSub, Int.reduceMul, Int.reduceEq, Int.reduceBEq, Int.reduceBNe, Int.reduceNeg, Int.reduceToNat, reduceCtorEq]
    refine rvC_use (rplans_c b v (planD b) x hR1.app hx.app hpl hpb).v ?_
    simp only [go_sem, hpB, b1, ↓reduceIte, Nat.reduceEqDiff, Nat.reduceAdd, Nat.reduceSub, Nat.reduceMul, Nat.reduceLT, Nat.reduceLeDiff, Int.reduceLE, Int.reduceLT, Int.reduceAdd, Int.reduceSub, Int.reduceMul, Int.reduceEq, Int.reduceBEq, Int.reduceBNe, Int.reduceNeg, Int.reduceToNat, reduceCtorEq]
    have hR2 := Right_c (w0 := w0) (h := H1 ++ [some (.row [.int .i64 (rightD b t).1, .int .i64 (rightD b t).2.1, .int .i64 (rightD b t).2.2])]) b v (planD b) x hR1.app hx.app hpl hpb
    rw [RightV, if_pos (by rw [eb, hpB]; rfl)] at hR2
    refine rvC_use hR2.v ?_
    rw [hfine]
    simp only [go_sem, ↓reduceIte, Nat.reduceEqDiff, Nat.reduceAdd, Nat.reduceSub, Nat.reduceMul, Nat.reduceLT, Nat.reduceLeDiff, Int.reduceLE, Int.reduceLT, Int.reduceAdd, Int.reduceSub, Int.reduceMul, Int.reduceEq, Int.reduceBEq, Int.reduceBNe, Int.reduceNeg, Int.reduceToNat, reduceCtorEq]
    refine ⟨fun e => ?_, fun e => ?_⟩
    · have hless := (sb2 t (hgr.2 e)).2
      refine rvC_use (lessP_c t (planD b) pv x hP1.app hx.app htl hpl hll hpb).v ?_
      rw [show lessP t (planD b) = false from hless]
      simp only [go_sem, ↓reduceIte, Nat.reduceEqDiff, Nat.reduceAdd, Nat.reduceSub, Nat.reduceMul, Nat.reduceLT, Nat.reduceLeDiff, Int.reduceLE, Int.reduceLT, Int.reduceAdd, Int.reduceSub, Int.reduceMul, Int.reduceEq, Int.reduceBEq, Int.reduceBNe, Int.reduceNeg, Int.reduceToNat, reduceCtorEq]
      refine rvC_use known_c.v ?_
      simp only [go_sem, ↓reduceIte, Nat.reduceEqDiff, Nat.reduceAdd, Nat.reduceSub, Nat.reduceMul, Nat.reduceLT, Nat.reduceLeDiff, Int.reduceLE, Int.reduceLT, Int.reduceAdd, Int.reduceSub, Int.reduceMul, Int.reduceEq, Int.reduceBEq, Int.reduceBNe, Int.reduceNeg, Int.reduceToNat, reduceCtorEq]
      exact fin1 _
    · refine rvC_use known_c.v ?_
      simp only [go_sem, ↓reduceIte, Nat.reduceEqDiff, Nat.reduceAdd, Nat.reduceSub, Nat.reduceMul, Nat.reduceLT, Nat.reduceLeDiff, Int.reduceLE, Int.reduceLT, Int.reduceAdd, Int.reduceSub, Int.reduceMul, Int.reduceEq, Int.reduceBEq, Int.reduceBNe, Int.reduceNeg, Int.reduceToNat, reduceCtorEq]
      exact fin1 _
  · rw [if_neg hok] at hK
    subst hK
    have hnf : ((rightD b t).2.1 != 1) = true := by
      rw [bne_iff_ne]
      intro e
      exact hok (sb2 t (hgr.2 e)).1
    simp only [go_sem, b1', ↓reduceIte, Nat.reduceEqDiff, Nat.reduceAdd, Nat.reduceSub, Nat.reduceMul, Nat.reduceLT, Nat.reduceLeDiff, Int.reduceLE, Int.reduceLT, Int.reduceAdd, Int.reduceSub, Int.reduceMul, Int.reduceEq, Int.reduceBEq, Int.reduceBNe, Int.reduceNeg, Int.reduceToNat, reduceCtorEq]
    refine rvC_use hRt'.v ?_
    simp only [go_sem, bne_self_eq_false, b1, hnf, ↓reduceIte, Nat.reduceEqDiff, Nat.reduceAdd, Nat.reduceSub, Nat.reduceMul, Nat.reduceLT, Nat.reduceLeDiff, Int.reduceLE, Int.reduceLT, Int.reduceAdd, Int.reduceSub, Int.reduceMul, Int.reduceEq, Int.reduceBEq, Int.reduceBNe, Int.reduceNeg, Int.reduceToNat, reduceCtorEq]
    refine rvC_use known_c.v ?_
    simp only [go_sem, ↓reduceIte, Nat.reduceEqDiff, Nat.reduceAdd, Nat.reduceSub, Nat.reduceMul, Nat.reduceLT, Nat.reduceLeDiff, Int.reduceLE, Int.reduceLT, Int.reduceAdd, Int.reduceSub, Int.reduceMul, Int.reduceEq, Int.reduceBEq, Int.reduceBNe, Int.reduceNeg, Int.reduceToNat, reduceCtorEq]
    exact fin1 _
end Go.Proofs.Ab

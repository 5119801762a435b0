/- The own layer under the proofs of this seat, part Z: what calls of the program come to on an abstract heap. No condition. -/
import Derived.Test.YtammfjjepbekaaaY
set_option linter.unusedSimpArgs false
set_option linter.unusedVariables false
namespace Go.Proofs.Ab
open Go Go.Proofs
variable {w0 : World} {h : Heap}
attribute [local irreducible] ACall ACallV AYield DCall DCallV rvC rdC lp rg dr ex un rv rd'

theorem app_grow {H : Heap} {es b n io k : Nat} {ov : AV} {vs x : List AV} {f : Bool} (hov : n = 0 ∧ ov = .nilS ∧ vs = [] ∨ n ≠ 0 ∧ ov = .sl (.own io 0) n es false ∧ H[io]? = some (some (.row vs)) ∧ vs.length = n * es)
    (hk : H[k]? = some (some (.row x))) (hx : x.length = es) (ho : x.all one = true) (hb : b ≤ 1000000) (hn : n ≤ 1000000) :
    ∃ G, appA w0 H es b ov (.sl (.own k 0) 1 es f) = some (.sl (.own H.length 0) (n + 1) es false, G) ∧ G.length = H.length + 1 ∧ G[H.length]? = some (some (.row (vs ++ x))) ∧ ∀ (i : Nat) c, (n ≠ 0 → i ≠ io) → H[i]? = some (some c) → G[i]? = some (some c) := by
  have r1 : rdn w0 H (.own k 0) (1 * es) = some x := by
    simp only [rdn, hk]; simp [hx]; rw [← hx]; simp
  rcases hov with ⟨h1, h2, h3⟩ | ⟨h1, h2, h3, h4⟩
  · subst h1; subst h2; subst h3
    refine ⟨H ++ [some (.row x)], ?_, by simp, by simp, fun i c _ e => getElem?_app_left e⟩
    simp only [appA, srcOf, esOk_s, if_true, r1, Option.map_some, Option.bind_some]
    rw [if_neg (by omega), if_pos ⟨by omega, ho⟩]
    simp [mkSl]
  · have hlt := get_lt h3
    have r2 : rdn w0 H (.own io 0) (n * es) = some vs := by
      simp only [rdn, h3]; simp [h4]; rw [← h4]; simp
    have hsz : (n + 1) * (b + 1) ≤ 2 ^ 40 := Nat.le_trans (Nat.mul_le_mul (show n + 1 ≤ 1000001 by omega) (show b + 1 ≤ 1000001 by omega)) (by decide)
    refine ⟨H.set io none ++ [some (.row (vs ++ x))], ?_, by simp, by simp, fun i c hi e => ?_⟩
    · rw [h2]
      simp only [appA, srcOf, esOk_s, if_true, r1, Option.map_some, Option.bind_some]
      rw [if_neg (by omega), if_pos ⟨trivial, hsz, ho⟩]
      simp only [Bool.false_eq_true, if_false, r2, Option.bind_some]
    · refine getElem?_app_left ?_
      rw [List.getElem?_set_ne fun e2 => hi h1 e2.symm]; exact e

theorem flat_len {α : Type} {f : α → List AV} {n : Nat} (hf : ∀ a, (f a).length = n) : ∀ (l : List α), (l.flatMap f).length = l.length * n
  | [] => by simp
  | a :: l => by rw [List.flatMap_cons, List.length_append, flat_len hf l, hf, List.length_cons, Nat.succ_mul]; omega
theorem flat_get {α : Type} {f : α → List AV} {n : Nat} (hf : ∀ a, (f a).length = n) : ∀ (l : List α) (s : Nat) (hs : s < l.length), ((l.flatMap f).drop (s * n)).take n = f l[s]
  | a :: l, 0, _ => by rw [List.flatMap_cons, Nat.zero_mul, List.drop_zero, List.take_append_of_le_length (by rw [hf]; exact Nat.le_refl _), List.take_of_length_le (by rw [hf]; exact Nat.le_refl _)]; rfl
  | a :: l, s + 1, hs => by
    have := flat_get hf l s (by simpa using hs)
    have e1 : (s + 1) * n = (f a).length + s * n := by rw [hf, Nat.succ_mul]; omega
    rw [List.flatMap_cons, e1, List.drop_length_add_append, this]; rfl
theorem flat_set {α : Type} {f : α → List AV} {n : Nat} (hf : ∀ a, (f a).length = n) (x : α) : ∀ (l : List α) (s : Nat), s < l.length → (l.flatMap f).take (s * n) ++ (f x ++ (l.flatMap f).drop (s * n + n)) = (l.set s x).flatMap f
  | a :: l, 0, _ => by
    rw [Nat.zero_mul, List.take_zero, List.nil_append, Nat.zero_add, List.set_cons_zero, List.flatMap_cons, List.flatMap_cons, List.drop_append_of_le_length (by rw [hf]; exact Nat.le_refl _), List.drop_of_length_le (by rw [hf]; exact Nat.le_refl _), List.nil_append]
  | a :: l, s + 1, hs => by
    have := flat_set hf x l s (by simpa using hs)
    have e1 : (s + 1) * n = (f a).length + s * n := by rw [hf, Nat.succ_mul]; omega
    have e2 : (s + 1) * n + n = (f a).length + (s * n + n) := by rw [hf, Nat.succ_mul]; omega
    rw [List.set_cons_succ, List.flatMap_cons, List.flatMap_cons, ← this, e2, e1, List.take_length_add_append, List.drop_length_add_append, List.append_assoc]
theorem flat_one {α : Type} {f : α → List AV} (ho : ∀ a, (f a).all one = true) : ∀ l : List α, (l.flatMap f).all one = true := fun l => by
  rw [List.all_eq_true]; intro x hx
  obtain ⟨a, _, h⟩ := List.mem_flatMap.1 hx
  exact List.all_eq_true.1 (ho a) x h
end Go.Proofs.Ab

namespace Go.Proofs.Ab
open Go

theorem getD_at {α : Type} {l : List α} {i : Nat} {d : α} (h : i < l.length) : l.getD i d = l[i] := by rw [List.getD_eq_getElem?_getD, List.getElem?_eq_getElem h]; rfl
def putR (b : BayD) (t : List (List Int)) : Nat → List Int
  | 0 => List.replicate b.slots.length (-1)
  | n + 1 => putD n (putR b t n) ((t.getD n []).map Int.toNat)
theorem putR_len {b : BayD} {t : List (List Int)} : ∀ n, (putR b t n).length = b.slots.length
  | 0 => by simp [putR]
  | n + 1 => by rw [putR, putD_len, putR_len n]
theorem putR_bd {b : BayD} {t : List (List Int)} : ∀ n, ∀ x ∈ putR b t n, -1 ≤ x ∧ x < (n : Int)
  | 0 => by simp [putR]
  | n + 1 => putD_bd (putR_bd n)
theorem faultR_rule {b : BayD} {t : List (List Int)} {n : Nat} {p : List Int} {r o : Int} (h : faultR b t n p = some (r, o)) : r ≠ 1 := by
  unfold faultR at h
  repeat' split at h
  all_goals first
    | (simp only [Option.some.injEq, Prod.mk.injEq] at h; omega)
    | (cases h)
theorem rightR_fine {b : BayD} {t : List (List Int)} : ∀ (k n : Nat), (rightR b t k n (putR b t n)).2.1 = 1 → ∀ j, j < k → faultR b t (n + j) (putR b t (n + j)) = none
  | 0, _, _, j, hj => by omega
  | k + 1, n, h, j, hj => by
    simp only [rightR] at h
    cases hf : faultR b t n (putR b t n) with
    | some r =>
      rw [hf] at h
      exact absurd h (faultR_rule hf)
    | none =>
      rw [hf] at h
      cases j with
      | zero => exact hf
      | succ j =>
        have := rightR_fine k (n + 1) h j (by omega)
        rwa [show n + 1 + j = n + (j + 1) by omega] at this
theorem right_fine {b : BayD} (hB : bayB b = true) {t : List (List Int)} (hT : planB b t = true) (h : (rightD b t).2.1 = 1) {n : Nat} (hn : n < b.days.length) : faultR b t n (putR b t n) = none := by
  rw [rightD_eq hB hT] at h
  have := rightR_fine (b := b) (t := t) b.days.length 0 h n hn
  rwa [Nat.zero_add] at this
theorem idxOf_no {α : Type} {p : α → Bool} {l : List α} (h : ¬ 0 ≤ idxOf p l) : ∀ x ∈ l, p x = false := fun x hx => by
  have := idxOf_ge p l
  rw [decide_eq_false h] at this
  have := List.any_eq_false.1 this.symm x hx
  simpa using this
theorem fault_none {b : BayD} {t : List (List Int)} {n : Nat} {p : List Int} (h : faultR b t n p = none) :
    (∀ s, s < b.slots.length → withinB Span.high (kindOf b s) (afterD b s (p.getD s 0) n) = true) ∧ (0 < (t.getD n []).length → b.nights.getD n false = true) ∧ ((t.getD n []).length : Int) ≤ b.most ∧
      (∀ d ∈ b.defs, d.nights.high = (n : Int) → changedD t d.slot d.nights.low d.nights.high = true) := by
  unfold faultR at h
  split at h
  · cases h
  rename_i h1
  split at h
  · cases h
  rename_i h2
  split at h
  · cases h
  rename_i h3
  split at h
  · cases h
  rename_i h4
  refine ⟨fun s hs => ?_, fun h5 => ?_, by omega, fun d hd hh => ?_⟩
  · have := idxOf_no h1 s (List.mem_range.2 hs)
    simpa using this
  · have h5' : decide (0 < (t.getD n []).length) = true := decide_eq_true h5
    rw [h5', Bool.true_and] at h2
    simpa using h2
  · have := idxOf_no h4 d hd
    rw [hh] at this ⊢
    simpa using this
end Go.Proofs.Ab

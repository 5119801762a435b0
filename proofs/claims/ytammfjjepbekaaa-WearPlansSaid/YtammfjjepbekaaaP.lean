/- The own layer under the proofs of this seat, part P: what calls of the program come to on an abstract heap. No condition. -/
import Derived.Test.YtammfjjepbekaaaZ
import Derived.Test.YtammfjjepbekaaaY
set_option linter.unusedSimpArgs false
set_option linter.unusedVariables false
namespace Go.Proofs.Ab
open Go

theorem lessI_iff {a c : List Int} : lessI a c = true ↔ cmpN a c < 0 := by simp [lessI]
theorem lessI_trans {a b c : List Int} (h1 : lessI a b = true) (h2 : lessI b c = true) : lessI a c = true := by
  rw [lessI_iff] at *
  have t := cmpN_trans c b a (by have := cmpN_symm b c; omega) (by have := cmpN_symm a b; omega)
  have s := cmpN_symm a c
  rcases Int.lt_or_eq_of_le t with h | h
  · omega
  · have e := (cmpN_eq c a).1 h.symm
    subst e
    have := cmpN_symm b c; omega
theorem posC_low : ∀ {out : List (List Int)} {x : List Int} {i : Nat}, i < posC out x → ∀ hi : i < out.length, lessI out[i] x = true
  | [], _, _, h, _ => by simp [posC] at h
  | a :: l, x, i, h, hi => by
    simp only [posC] at h
    split at h
    · rename_i e
      cases i with
      | zero => exact e
      | succ i => exact posC_low (out := l) (by omega) (by simpa using hi)
    · omega
theorem posC_high : ∀ {out : List (List Int)} {x : List Int} (h : posC out x < out.length), lessI out[posC out x] x = false
  | [], _, h => by simp at h
  | a :: l, x, h => by
    by_cases e : lessI a x = true
    · have e2 : posC (a :: l) x = posC l x + 1 := by simp [posC, e]
      have := posC_high (out := l) (x := x) (by rw [e2] at h; simpa using h)
      simp only [e2, List.getElem_cons_succ]; exact this
    · have e2 : posC (a :: l) x = 0 := by simp [posC, e]
      simp only [e2, List.getElem_cons_zero]
      simpa using e
theorem insC_sorted {out : List (List Int)} {x : List Int} (h : out.Pairwise fun a c => lessI a c = true) (hx : x ∉ out) : (insC out x).Pairwise fun a c => lessI a c = true := by
  have hs := h
  rw [← List.take_append_drop (posC out x) out, List.pairwise_append] at hs
  obtain ⟨h1, h2, h3⟩ := hs
  rw [insC, List.pairwise_append, List.pairwise_cons]
  have hlow : ∀ a ∈ out.take (posC out x), lessI a x = true := fun a ha => by
    obtain ⟨i, hi, rfl⟩ := List.getElem_of_mem ha
    rw [List.length_take] at hi
    rw [List.getElem_take]; exact posC_low (by omega) (by omega)
  have hhigh : ∀ a ∈ out.drop (posC out x), lessI x a = true := fun a ha => by
    have hlt : posC out x < out.length := by
      rcases Nat.lt_or_ge (posC out x) out.length with e | e
      · exact e
      · rw [List.drop_eq_nil_of_le e] at ha; cases ha
    have h0 := posC_high hlt
    have hne : out[posC out x] ≠ x := fun e => hx (e ▸ List.getElem_mem hlt)
    have hx0 : lessI x out[posC out x] = true := by
      cases hq : lessI x out[posC out x] with
      | true => rfl
      | false => exact absurd (lessI_ne h0 hq) hne
    rw [List.drop_eq_getElem_cons hlt] at ha
    rcases List.mem_cons.1 ha with rfl | ha
    · exact hx0
    · rw [List.drop_eq_getElem_cons hlt, List.pairwise_cons] at h2
      exact lessI_trans hx0 (h2.1 a ha)
  refine ⟨h1, ⟨hhigh, h2⟩, fun a ha c hc => ?_⟩
  rcases List.mem_cons.1 hc with rfl | hc
  · exact hlow a ha
  · exact h3 a ha c hc
theorem bitsL_inj {N a c : Nat} (ha : a < 2 ^ N) (hc : c < 2 ^ N) (h : bitsL a N = bitsL c N) : a = c := by
  refine Nat.eq_of_testBit_eq fun i => ?_
  rcases Nat.lt_or_ge i N with hi | hi
  · have mem : ∀ b, ((i : Nat) : Int) ∈ bitsL b N ↔ b.testBit i = true := fun b => by
      simp only [bitsL, List.mem_map, List.mem_filter, List.mem_range, beq_iff_eq]
      constructor
      · rintro ⟨s, ⟨_, h2⟩, e⟩
        have : s = i := by simp at e; omega
        subst this
        rw [Nat.testBit_eq_decide_div_mod_eq]; simpa using h2
      · intro hb
        exact ⟨i, ⟨hi, by rw [Nat.testBit_eq_decide_div_mod_eq] at hb; simpa using hb⟩, rfl⟩
    have := (mem a).symm.trans ((by rw [h] : ((i : Nat) : Int) ∈ bitsL a N ↔ ((i : Nat) : Int) ∈ bitsL c N).trans (mem c))
    cases h1 : a.testBit i <;> cases h2 : c.testBit i <;> simp [h1, h2] at this ⊢
  · rw [Nat.testBit_lt_two_pow (Nat.lt_of_lt_of_le ha (Nat.pow_le_pow_right (by omega) hi)), Nat.testBit_lt_two_pow (Nat.lt_of_lt_of_le hc (Nat.pow_le_pow_right (by omega) hi))]
theorem choices_sorted {N : Nat} : ∀ k, k ≤ 2 ^ N → (choicesD N k).Pairwise fun a c => lessI a c = true
  | 0, _ => by simp [choicesD]
  | k + 1, hk => by
    rw [choices_succ]
    refine insC_sorted (choices_sorted k (by omega)) fun h => ?_
    obtain ⟨bits, h1, h2⟩ := choices_mem.1 h
    have := bitsL_inj (by omega) (by omega) h2
    omega
theorem bitsL_listed {N bits : Nat} (hN : N ≤ 5) (h : bits < 2 ^ N) : bitsL bits N = listedD bits := by
  have : ∀ m, bitsL bits (N + m) = bitsL bits N := fun m => by
    induction m with
    | zero => rfl
    | succ m ih =>
      rw [show N + (m + 1) = (N + m) + 1 by omega, bitsL_succ, ih, if_neg]
      have : bits < 2 ^ (N + m) := Nat.lt_of_lt_of_le h (Nat.pow_le_pow_right (by omega) (by omega))
      rw [Nat.div_eq_of_lt this]; omega
  have := this (5 - N)
  rw [show N + (5 - N) = 5 by omega] at this
  exact this.symm
theorem allC_mem {b : BayD} (hN : b.slots.length ≤ 5) {c : List Int} : c ∈ allC b ↔ choiceB b c = true := by
  rw [allC, choices_mem]
  constructor
  · rintro ⟨bits, h1, rfl⟩
    rw [bitsL_listed hN h1]; exact listed_choice h1
  · intro h
    obtain ⟨bits, h1, rfl⟩ := choice_listed hN h
    exact ⟨bits, h1, (bitsL_listed hN h1).symm⟩
end Go.Proofs.Ab

namespace Go.Proofs.Ab
open Go

theorem putsD_cons {B N y : Nat} : putsD B (N + 1) y = (((y % B : Nat) : Int) - 1) :: putsD B N (y / B) := by
  simp only [putsD, List.range_succ_eq_map, List.map_cons, List.map_map, Nat.pow_zero, Nat.div_one, List.cons.injEq, true_and]
  refine List.map_congr_left fun s _ => ?_
  simp only [Function.comp]
  rw [Nat.pow_succ, Nat.mul_comm, ← Nat.div_div_eq_div_mul]
theorem puts_enc {B : Nat} (hB : 0 < B) : ∀ {p : List Int}, (∀ x ∈ p, -1 ≤ x ∧ x + 1 < (B : Int)) → putsD B p.length (encN B p) = p
  | [], _ => rfl
  | x :: p, h => by
    have ih := puts_enc hB (p := p) fun y hy => h y (List.mem_cons_of_mem _ hy)
    have hx := h x List.mem_cons_self
    have hlt : (x + 1).toNat < B := by omega
    rw [List.length_cons, putsD_cons, encN, Nat.mul_comm, Nat.mul_add_mod, Nat.mod_eq_of_lt hlt, Nat.mul_add_div hB, Nat.div_eq_of_lt hlt, Nat.add_zero, ih]
    congr 1; omega

theorem search_fail {b : BayD} {k n : Nat} {p : List Int} (h : (List.range b.slots.length).all (fun s => !decide (lastsD Span.high b s (p.getD s 0) < n)) = false) : (searchD b (k + 1) n p).ok = false := by
  have hal : ∀ c, allowD b n p c = false := fun c => by simp only [allowD, h, Bool.false_and]
  simp only [searchD]
  have : ∀ (l : List Nat), l.foldl (stepS b (searchD b k (n + 1)) n p) ⟨0, 0, [], false⟩ = ⟨0, 0, [], false⟩ := fun l => by
    induction l with
    | nil => rfl
    | cons a l ih => rw [List.foldl_cons, stepS, hal]; exact ih
  rw [this]
theorem after_allow {b : BayD} (hB : bayB b = true) {n : Nat} (hn : n < b.days.length) {p p5 : List Int} (hp5 : p5.length = 5) (hpp : p5.take b.slots.length = p) (hlast : (List.range b.slots.length).all (fun s => !decide (lastsD Span.high b s (p5.getD s 0) < n)) = true)
    {c : List Int} (hc : choiceB b c = true) (hpb : ∀ x ∈ p, -1 ≤ x ∧ x < (n : Int)) :
    0 ≤ afterR b p n c ↔ allowD b n p5 c = true ∧ (n + 1 < b.days.length → (List.range b.slots.length).all (fun s => !decide (lastsD Span.high b s ((putD n p5 (c.map Int.toNat)).getD s 0) < ((n + 1 : Nat) : Int))) = true) := by
  have bs := bayB_spec hB
  have hpl : p.length = b.slots.length := by rw [← hpp, List.length_take]; omega
  have hg : ∀ s, s < b.slots.length → p5.getD s 0 = p.getD s 0 := fun s hs => by
    rw [← hpp, List.getD_eq_getElem?_getD, List.getD_eq_getElem?_getD, List.getElem?_take_of_lt hs]
  have hg2 : ∀ s, s < b.slots.length → (putD n p5 (c.map Int.toNat)).getD s 0 = (putD n p (c.map Int.toNat)).getD s 0 := fun s hs => by
    rw [← hpp, ← putD_take, List.getD_eq_getElem?_getD, List.getD_eq_getElem?_getD, List.getElem?_take_of_lt hs]
  have hcn : ∀ x ∈ c, 0 ≤ x := fun x hx => ((choiceB_iff.1 hc).1 x hx).1
  have hdefs : b.defs.any (lateR n (putD n p (c.map Int.toNat))) = false ↔ b.defs.all (defOk n p5 c) = true := by
    rw [List.any_eq_false, List.all_eq_true]
    refine forall_congr' fun d => forall_congr' fun hd => ?_
    have q := bs.2.2.2.2.2.2.2.2.2.2.2.2.2 d hd
    simp only [defB, spanB, inB, Bool.and_eq_true, decide_eq_true_eq] at q
    obtain ⟨sl, hsl⟩ : ∃ sl : Nat, d.slot = sl := ⟨d.slot.toNat, by omega⟩
    have hs : sl < b.slots.length := by omega
    have hany : (c.any fun y => d.slot == y) = (c.any fun y => y == (sl : Int)) := by
      rw [hsl]; congr 1; funext y; rw [Bool.beq_comm]
    have hput := putD_get (n := n) (c := c.map Int.toNat) (p := p) (s := sl) (by omega)
    rw [any_nat hcn] at hput
    by_cases e : d.nights.high = (n : Int)
    · have e1 : (d.nights.high == (n : Int)) = true := by simp [e]
      cases hq : c.any fun y => y == (sl : Int) with
      | true =>
        have hput' : (putD n p (c.map Int.toNat)).getD sl 0 = n := by rw [hput]; exact if_pos hq
        have hlo : ¬ (n : Int) < d.nights.low := by omega
        have hq' := hany.trans hq
        simp only [lateR, defOk, e1, Bool.true_and, hq']
        rw [hsl, Int.toNat_natCast, hput', decide_eq_false hlo]
        simp
      | false =>
        have hput' : (putD n p (c.map Int.toNat)).getD sl 0 = p.getD sl 0 := by rw [hput]; exact if_neg (by rw [Bool.not_eq_true]; exact hq)
        have hlo : 0 ≤ d.nights.low := by omega
        have hq' := hany.trans hq
        simp only [lateR, defOk, e1, Bool.true_and, hq']
        rw [hsl, Int.toNat_natCast, hput', hg sl hs]
        have : (max (p.getD sl 0) (-1) < d.nights.low) ↔ (p.getD sl 0 < d.nights.low) := by omega
        simp only [this]
        by_cases h5 : p.getD sl 0 < d.nights.low <;> simp only [h5, decide_true, decide_false] <;> simp
    · have e1 : (d.nights.high == (n : Int)) = false := by simp [e]
      simp [lateR, defOk, e1]
  have hlate : ((List.range b.slots.length).any fun s => decide (lastsD Span.high b s ((putD n p (c.map Int.toNat)).getD s 0) < (n : Int) + 1)) = false ↔ (List.range b.slots.length).all (fun s => !decide (lastsD Span.high b s ((putD n p5 (c.map Int.toNat)).getD s 0) < ((n + 1 : Nat) : Int))) = true := by
    rw [List.any_eq_false, List.all_eq_true]
    refine forall_congr' fun s => forall_congr' fun hs => ?_
    rw [hg2 s (List.mem_range.1 hs)]
    simp
  simp only [allowD, hlast, Bool.true_and, Bool.and_eq_true, Bool.not_eq_true']
  rw [← hdefs, ← hlate]
  unfold afterR
  split
  · rename_i h1
    constructor
    · intro h; omega
    · rintro ⟨⟨h, _⟩, _⟩
      rw [h1] at h; cases h
  · rename_i h1
    split
    · rename_i h2
      constructor
      · intro h; omega
      · rintro ⟨⟨_, h⟩, _⟩
        rw [h2] at h; cases h
    · rename_i h2
      split
      · rename_i h3
        simp only [Bool.and_eq_true, decide_eq_true_eq] at h3
        constructor
        · intro h; omega
        · rintro ⟨_, h⟩
          rw [h (by omega)] at h3; cases h3.2
      · rename_i h3
        refine ⟨fun _ => ⟨⟨by simpa using h1, by simpa using h2⟩, fun h => ?_⟩, fun _ => by omega⟩
        simp only [Bool.and_eq_true, decide_eq_true_eq, not_and, Bool.not_eq_true] at h3
        exact h3 (by omega)
end Go.Proofs.Ab

namespace Go.Proofs.Ab
open Go

theorem pick_fold {b : BayD} {prev : List Ch3} {n : Nat} {p : List Int} : ∀ m, (((List.range m).foldl (stepB b prev n p) ⟨-1, 0, 0⟩) = ⟨-1, 0, 0⟩ ∧ ∀ j, j < m → okB b prev n p j = false) ∨
    ∃ i, i < m ∧ okB b prev n p i = true ∧ (List.range m).foldl (stepB b prev n p) ⟨-1, 0, 0⟩ = candB b prev n p i ∧ ∀ j, j < m → okB b prev n p j = true →
      (candB b prev n p i).nights < (candB b prev n p j).nights ∨ (candB b prev n p i).nights = (candB b prev n p j).nights ∧ ((candB b prev n p i).changes < (candB b prev n p j).changes ∨ (candB b prev n p i).changes = (candB b prev n p j).changes ∧ i ≤ j)
  | 0 => .inl ⟨rfl, fun j hj => absurd hj (by omega)⟩
  | m + 1 => by
    rw [List.range_succ, List.foldl_append, List.foldl_cons, List.foldl_nil]
    have split : ∀ j, j < m + 1 → j < m ∨ j = m := fun j hj => by omega
    rcases pick_fold (b := b) (prev := prev) (n := n) (p := p) m with ⟨e, h⟩ | ⟨i, h1, h2, e, h3⟩
    · rw [e]
      by_cases hm : okB b prev n p m = true
      · refine .inr ⟨m, by omega, hm, ?_, fun j hj hjk => ?_⟩
        · rw [stepB, if_pos hm, if_pos]
          simp [lessB]
        · rcases split j hj with q | rfl
          · rw [h j q] at hjk; cases hjk
          · omega
      · refine .inl ⟨by rw [stepB, if_neg hm], fun j hj => ?_⟩
        rcases split j hj with q | rfl
        · exact h j q
        · simpa using hm
    · rw [e]
      by_cases hm : okB b prev n p m = true
      · have hat : (candB b prev n p i).at_ = i := rfl
        rw [stepB, if_pos hm]
        by_cases hl : lessB (candB b prev n p m) (candB b prev n p i) = true
        · rw [if_pos hl]
          simp only [lessB, Bool.or_eq_true, Bool.and_eq_true, decide_eq_true_eq, hat] at hl
          refine .inr ⟨m, by omega, hm, rfl, fun j hj hjk => ?_⟩
          rcases split j hj with q | rfl
          · have := h3 j q hjk; omega
          · omega
        · rw [if_neg hl]
          simp only [lessB, Bool.or_eq_true, Bool.and_eq_true, decide_eq_true_eq, hat] at hl
          refine .inr ⟨i, by omega, h2, rfl, fun j hj hjk => ?_⟩
          rcases split j hj with q | rfl
          · exact h3 j q hjk
          · omega
      · rw [stepB, if_neg hm]
        refine .inr ⟨i, by omega, h2, rfl, fun j hj hjk => ?_⟩
        rcases split j hj with q | rfl
        · exact h3 j q hjk
        · exact absurd hjk hm

theorem after_eq {b : BayD} {p : List Int} {n : Nat} {c : List Int} (h : 0 ≤ afterR b p n c) : afterR b p n c = encN (b.days.length + 1) (putD n p (c.map Int.toNat)) := by
  unfold afterR at h ⊢
  split
  · rename_i e; rw [if_pos e] at h; omega
  · rename_i e
    rw [if_neg e] at h
    split
    · rename_i e2; rw [if_pos e2] at h; omega
    · rename_i e2
      rw [if_neg e2] at h
      split
      · rename_i e3; rw [if_pos e3] at h; omega
      · rfl

def lastAll (b : BayD) (n : Nat) (p : List Int) : Bool := (List.range b.slots.length).all (fun s => !decide (lastsD Span.high b s (p.getD s 0) < n))
def matchB (b : BayD) (k n : Nat) (p : List Int) (C : Ch3) : Prop :=
  (0 ≤ C.at_ ↔ (searchD b k n p).ok = true) ∧ (0 ≤ C.at_ → C.nights = (searchD b k n p).nights ∧ C.changes = (searchD b k n p).changes ∧ (0 < k → (allC b).getD C.at_.toNat [] = (searchD b k n p).list))

structure StB (b : BayD) (k n : Nat) (p5 : List Int) : Prop where
  nk : n + k = b.days.length
  len : p5.length = 5
  bd : ∀ x ∈ p5.take b.slots.length, -1 ≤ x ∧ x < (n : Int)
  last : 0 < k → lastAll b n p5 = true

theorem StB.next {b : BayD} {k n : Nat} {p5 : List Int} (s : StB b (k + 1) n p5) {c : List Int} (h : 0 < k → lastAll b (n + 1) (putD n p5 (c.map Int.toNat)) = true) : StB b k (n + 1) (putD n p5 (c.map Int.toNat)) := by
  refine ⟨by have := s.nk; omega, by rw [putD_len, s.len], ?_, h⟩
  rw [putD_take]
  exact putD_bd s.bd

theorem StB.enc {b : BayD} {k n : Nat} {p5 : List Int} (hB : bayB b = true) (s : StB b k n p5) : encN (b.days.length + 1) (p5.take b.slots.length) < manyB b ∧ putB b (encN (b.days.length + 1) (p5.take b.slots.length)) = p5.take b.slots.length := by
  have bs := bayB_spec hB
  have hl : (p5.take b.slots.length).length = b.slots.length := by rw [List.length_take, s.len]; omega
  have hb : ∀ x ∈ p5.take b.slots.length, -1 ≤ x ∧ x + 1 < ((b.days.length + 1 : Nat) : Int) := fun x hx => by
    have := s.bd x hx; have := s.nk; omega
  refine ⟨?_, ?_⟩
  · have := encN_bd (B := b.days.length + 1) (by omega) hb
    rw [hl] at this; exact this
  · have := puts_enc (B := b.days.length + 1) (by omega) hb
    rw [hl] at this; exact this

theorem ok_cand {b : BayD} (hB : bayB b = true) {k n : Nat} {p5 : List Int} (s : StB b (k + 1) n p5) (ih : ∀ q, StB b k (n + 1) q → matchB b k (n + 1) q ((levB b (manyB b) k).getD (encN (b.days.length + 1) (q.take b.slots.length)) ⟨-1, 0, 0⟩))
    {i : Nat} (hi : i < (allC b).length) : okB b (levB b (manyB b) k) n (p5.take b.slots.length) i = candP b k n p5 (allC b)[i] ∧
      (candP b k n p5 (allC b)[i] = true → (candB b (levB b (manyB b) k) n (p5.take b.slots.length) i).nights = (candC b k n p5 (allC b)[i]).nights ∧ (candB b (levB b (manyB b) k) n (p5.take b.slots.length) i).changes = (candC b k n p5 (allC b)[i]).changes ∧
        StB b k (n + 1) (putD n p5 ((allC b)[i].map Int.toNat)) ∧ 0 ≤ afterR b (p5.take b.slots.length) n (allC b)[i]) := by
  have bs := bayB_spec hB
  have hn : n < b.days.length := by have := s.nk; omega
  obtain ⟨c, ec⟩ : ∃ c, c = (allC b)[i] := ⟨_, rfl⟩
  have hc : choiceB b c = true := (allC_mem (b := b) (by omega)).1 (by rw [ec]; exact List.getElem_mem hi)
  have gc : (allC b).getD i [] = c := by rw [getD_at hi, ec]
  rw [← ec]
  have hall : ((p5.take b.slots.length).all fun x => decide (x < (n : Int))) = true := by
    rw [List.all_eq_true]; intro x hx; simpa using (s.bd x hx).2
  have aa := after_allow hB hn s.len rfl (s.last (by omega)) hc s.bd
  have hfail : k ≠ 0 → lastAll b (n + 1) (putD n p5 (c.map Int.toNat)) = false → (searchD b k (n + 1) (putD n p5 (c.map Int.toNat))).ok = false := fun hk h => by
    cases k with
    | zero => exact absurd rfl hk
    | succ k => exact search_fail h
  by_cases ha : 0 ≤ afterR b (p5.take b.slots.length) n c
  · have hal := aa.1 ha
    have hst : StB b k (n + 1) (putD n p5 (c.map Int.toNat)) := s.next fun hk => hal.2 (by have := s.nk; omega)
    have he := after_eq ha
    have henc := hst.enc hB
    have hidx : (afterR b (p5.take b.slots.length) n c).toNat = encN (b.days.length + 1) ((putD n p5 (c.map Int.toNat)).take b.slots.length) := by rw [he, Int.toNat_natCast, putD_take]
    have hlt : encN (b.days.length + 1) ((putD n p5 (c.map Int.toNat)).take b.slots.length) < (levB b (manyB b) k).length := by rw [levB_len]; exact henc.1
    have hpv : prevB b (levB b (manyB b) k) n (p5.take b.slots.length) i = (levB b (manyB b) k).getD (encN (b.days.length + 1) ((putD n p5 (c.map Int.toNat)).take b.slots.length)) ⟨-1, 0, 0⟩ := by
      rw [prevB, gc, hidx, getD_at hlt, getD_at hlt]
    have hm := ih _ hst
    rw [← hpv] at hm
    refine ⟨?_, fun hcp => ?_⟩
    · rw [okB, hall, gc, decide_eq_true ha, candP, hal.1]
      simp only [Bool.true_and]
      cases hq : (searchD b k (n + 1) (putD n p5 (c.map Int.toNat))).ok with
      | true => exact decide_eq_true (hm.1.2 hq)
      | false =>
        refine decide_eq_false fun h => ?_
        rw [hm.1.1 h] at hq; cases hq
    · rw [candP, hal.1, Bool.true_and] at hcp
      obtain ⟨q1, q2, _⟩ := hm.2 (hm.1.2 hcp)
      refine ⟨?_, ?_, hst, ha⟩
      · simp only [candB, candC, gc, q1]
      · simp only [candB, candC, gc, q2]
  · have hcp : candP b k n p5 c = false := by
      rw [candP]
      cases hq : allowD b n p5 c with
      | false => rfl
      | true =>
        simp only [Bool.true_and]
        have hnl : ¬ (n + 1 < b.days.length → lastAll b (n + 1) (putD n p5 (c.map Int.toNat)) = true) := fun h => ha (aa.2 ⟨hq, h⟩)
        refine hfail ?_ ?_
        · intro hk; subst hk; exact hnl fun h => absurd h (by have := s.nk; omega)
        · cases hl : lastAll b (n + 1) (putD n p5 (c.map Int.toNat)) with
          | false => rfl
          | true => exact absurd (fun _ => hl) hnl
    refine ⟨?_, fun h => by rw [hcp] at h; cases h⟩
    rw [okB, gc, decide_eq_false ha, hcp]; simp

theorem lev_search {b : BayD} (hB : bayB b = true) : ∀ (k n : Nat) (p5 : List Int), StB b k n p5 → matchB b k n p5 ((levB b (manyB b) k).getD (encN (b.days.length + 1) (p5.take b.slots.length)) ⟨-1, 0, 0⟩)
  | 0, n, p5, s => by
    have h := (s.enc hB).1
    rw [getD_at (by rw [levB_len]; exact h)]
    simp [levB, matchB, searchD]
  | k + 1, n, p5, s => by
    have bs := bayB_spec hB
    obtain ⟨he1, he2⟩ := s.enc hB
    have hn : b.days.length - (k + 1) = n := by have := s.nk; omega
    have hp : (levB b (manyB b) (k + 1)).getD (encN (b.days.length + 1) (p5.take b.slots.length)) ⟨-1, 0, 0⟩ = (List.range (allC b).length).foldl (stepB b (levB b (manyB b) k) n (p5.take b.slots.length)) ⟨-1, 0, 0⟩ := by
      rw [getD_at (by rw [levB_len]; exact he1)]
      simp only [levB, List.getElem_map, List.getElem_range, pickB, he2, hn]
    rw [hp]
    have hoc := fun {i : Nat} (hi : i < (allC b).length) => ok_cand hB s (fun q hq => lev_search hB k (n + 1) q hq) hi
    obtain ⟨sp1, sp2⟩ := searchD_spec (b := b) (by omega) k n p5
    have hidx : ∀ c, choiceB b c = true → ∃ j, ∃ hj : j < (allC b).length, (allC b)[j] = c := fun c hc => List.getElem_of_mem ((allC_mem (b := b) (by omega)).2 hc)
    rcases pick_fold (b := b) (prev := levB b (manyB b) k) (n := n) (p := p5.take b.slots.length) (allC b).length with ⟨e, h⟩ | ⟨i, hi, h2, e, h3⟩
    · rw [e]
      have hno : (searchD b (k + 1) n p5).ok = false := by
        rcases sp1 with q | ⟨c, hc, hcp, q⟩
        · rw [q]
        · obtain ⟨j, hj, rfl⟩ := hidx c hc
          have := (hoc hj).1
          rw [h j hj, hcp] at this; cases this
      simp [matchB, hno]
    · rw [e]
      have hci : choiceB b (allC b)[i] = true := (allC_mem (b := b) (by omega)).1 (List.getElem_mem hi)
      have hcpi : candP b k n p5 (allC b)[i] = true := by rw [← (hoc hi).1]; exact h2
      have hl := sp2 _ hci hcpi
      rcases sp1 with q | ⟨c, hc, hcp, q⟩
      · rw [q, ← Bool.not_eq_true, lessC_iff] at hl
        exact absurd (.inl ⟨rfl, rfl⟩) hl
      · obtain ⟨j, hj, rfl⟩ := hidx c hc
        have h4 := h3 j hj (by rw [(hoc hj).1]; exact hcp)
        obtain ⟨ei1, ei2, _⟩ := (hoc hi).2 hcpi
        obtain ⟨ej1, ej2, _⟩ := (hoc hj).2 hcp
        rw [q, ← Bool.not_eq_true, lessC_iff] at hl
        have hok1 : ∀ c, (candC b k n p5 c).ok = true := fun _ => rfl
        have hli : ∀ c, (candC b k n p5 c).list = c := fun _ => rfl
        simp only [hok1, hli, reduceCtorEq, and_false, false_or, true_and, ← ei1, ← ei2, ← ej1, ← ej2] at hl
        have hs : ∀ x y (hx : x < (allC b).length) (hy : y < (allC b).length), x < y → cmpN (allC b)[x] (allC b)[y] < 0 := fun x y hx hy hxy => by
          have hsort : (allC b).Pairwise fun a c => lessI a c = true := choices_sorted _ (Nat.le_refl _)
          exact lessI_iff.1 (List.pairwise_iff_getElem.1 hsort x y hx hy hxy)
        have hij : i = j := by
          rcases Nat.lt_or_ge i j with h5 | h5
          · have := hs i j hi hj h5; omega
          · omega
        subst hij
        have hat : (candB b (levB b (manyB b) k) n (p5.take b.slots.length) i).at_ = i := rfl
        refine ⟨?_, fun _ => ⟨?_, ?_, fun _ => ?_⟩⟩
        · rw [hat, q]; simp [hok1]
        · rw [q]; exact ei1
        · rw [q]; exact ei2
        · rw [q, hat, Int.toNat_natCast, getD_at hi]; rfl

theorem ext_plan {b : BayD} (hB : bayB b = true) : ∀ (k n : Nat) (p5 : List Int), StB b k n p5 → extB b k (encN (b.days.length + 1) (p5.take b.slots.length)) = if (searchD b k n p5).ok = true then some (planG b k n p5) else none
  | 0, n, p5, s => by simp [extB, searchD, planG]
  | k + 1, n, p5, s => by
    have bs := bayB_spec hB
    obtain ⟨he1, he2⟩ := s.enc hB
    have hn : b.days.length - (k + 1) = n := by have := s.nk; omega
    have hm := lev_search hB (k + 1) n p5 s
    obtain ⟨C, eC⟩ : ∃ C, C = (levB b (manyB b) (k + 1)).getD (encN (b.days.length + 1) (p5.take b.slots.length)) ⟨-1, 0, 0⟩ := ⟨_, rfl⟩
    rw [← eC] at hm
    simp only [extB, ← eC, he2, hn]
    by_cases hok : (searchD b (k + 1) n p5).ok = true
    · have hat := hm.1.2 hok
      obtain ⟨_, _, hli⟩ := hm.2 hat
      rw [if_neg (by omega), if_pos hok, hli (by omega)]
      obtain ⟨sp1, _⟩ := searchD_spec (b := b) (by omega) k n p5
      rcases sp1 with q | ⟨c, hc, hcp, q⟩
      · rw [q] at hok; cases hok
      · obtain ⟨j, hj, rfl⟩ := List.getElem_of_mem ((allC_mem (b := b) (by omega)).2 hc)
        obtain ⟨_, _, hst, ha⟩ := (ok_cand hB s (fun q hq => lev_search hB k (n + 1) q hq) hj).2 hcp
        have hl : (searchD b (k + 1) n p5).list = (allC b)[j] := by rw [q]; rfl
        rw [hl]
        have hidx : (afterR b (p5.take b.slots.length) n (allC b)[j]).toNat = encN (b.days.length + 1) ((putD n p5 ((allC b)[j].map Int.toNat)).take b.slots.length) := by rw [after_eq ha, Int.toNat_natCast, putD_take]
        rw [hidx, ext_plan hB k (n + 1) _ hst, if_pos]
        · simp only [planG, hl, Option.map_some]
        · simp only [candP, Bool.and_eq_true] at hcp; exact hcp.2
    · have : ¬ 0 ≤ C.at_ := fun h => hok (hm.1.1 h)
      rw [if_pos (by omega), if_neg hok]

theorem encN_zero {B : Nat} : ∀ {l : List Int}, (∀ x ∈ l, x = -1) → encN B l = 0
  | [], _ => rfl
  | x :: l, h => by
    rw [encN, encN_zero fun y hy => h y (List.mem_cons_of_mem _ hy), h x List.mem_cons_self]; simp
theorem best_plan {b : BayD} (hB : bayB b = true) : bestB b = if (searchD b b.days.length 0 [-1, -1, -1, -1, -1]).ok = true then some (planD b) else none := by
  have bs := bayB_spec hB
  have hg : ∀ s, s < b.slots.length → ([-1, -1, -1, -1, -1] : List Int).getD s 0 = -1 := fun s hs => by
    have : s < 5 := by omega
    match s, this with
    | 0, _ => rfl
    | 1, _ => rfl
    | 2, _ => rfl
    | 3, _ => rfl
    | 4, _ => rfl
  have hmem : ∀ x ∈ ([-1, -1, -1, -1, -1] : List Int).take b.slots.length, x = -1 := fun x hx => by
    have := List.mem_of_mem_take hx
    simpa using this
  have hla : lastAll b 0 [-1, -1, -1, -1, -1] = !((List.range b.slots.length).any fun s => decide (lastsD Span.high b s (-1) < 0)) := by
    rw [lastAll, List.not_any_eq_all_not]
    refine Bool.eq_iff_iff.2 ?_
    rw [List.all_eq_true, List.all_eq_true]
    refine forall_congr' fun s => forall_congr' fun hs => ?_
    rw [hg s (List.mem_range.1 hs)]; simp
  unfold bestB
  obtain ⟨k, hk⟩ : ∃ k, b.days.length = k + 1 := ⟨b.days.length - 1, by omega⟩
  by_cases ha : ((List.range b.slots.length).any fun s => decide (lastsD Span.high b s (-1) < 0)) = true
  · rw [if_pos ha]
    rw [ha] at hla
    rw [hk, search_fail (b := b) (k := k) (n := 0) (p := [-1, -1, -1, -1, -1]) hla]; rfl
  · rw [if_neg ha]
    rw [Bool.not_eq_true] at ha
    rw [ha] at hla
    have s : StB b b.days.length 0 [-1, -1, -1, -1, -1] := ⟨by omega, rfl, fun x hx => by rw [hmem x hx]; simp, fun _ => hla⟩
    have := ext_plan hB b.days.length 0 _ s
    rw [encN_zero hmem] at this
    rw [this]; rfl
end Go.Proofs.Ab

namespace Go.Proofs.Ab
open Go Go.Proofs
variable {w0 : World} {h : Heap}
attribute [local irreducible] ACall ACallV AYield DCall DCallV rvC rdC lp rg dr ex un rv rd'

theorem WearPlans_c (b : BayD) (v : BayV) (hS : BayS w0 h b v) : DCall Try.prog w0 6 [.agg (bayC b v)] h (.bool true) h := by
  refine DCall_forget trivial (ACall_sx hmix mf6_ok mf6_b mf6_g (Nat.le_of_ble_eq_true rfl) fun hb ha => ex_in ?_)
  have o1 := hS.kinds.one.1
  have o2 := hS.slots.one.1
  have o3 := hS.days.one.1
  have o4 := hS.nights.one.1
  have o5 := hS.defs.one.1
  have fin : ∀ L, HSub h (h ++ L) := fun L => HSub.refl.app
  simp only [go_sem, mf6, o1, o2, o3, o4, o5, ↓reduceIte, Nat.reduceEqDiff, Nat.reduceAdd, Nat.reduceSub, Nat.reduceMul, Nat.reduceLT, Nat.reduceLeDiff, Int.reduceLE, Int.reduceLT, Int.reduceAdd, Int.reduceSub, Int.reduceMul, Int.reduceEq, Int.reduceBEq, Int.reduceBNe, Int.reduceNeg, Int.reduceToNat, reduceCtorEq]
  refine rvC_use (small_c b v 3 7 hS.app).v ?_
  simp only [go_sem, ↓reduceIte, Nat.reduceEqDiff, Nat.reduceAdd, Nat.reduceSub, Nat.reduceMul, Nat.reduceLT, Nat.reduceLeDiff, Int.reduceLE, Int.reduceLT, Int.reduceAdd, Int.reduceSub, Int.reduceMul, Int.reduceEq, Int.reduceBEq, Int.reduceBNe, Int.reduceNeg, Int.reduceToNat, reduceCtorEq]
  refine ⟨fun e1 => ?_, fun e1 => ?_⟩
  · refine rvC_use known_c.v ?_
    simp only [go_sem, ↓reduceIte, Nat.reduceEqDiff, Nat.reduceAdd, Nat.reduceSub, Nat.reduceMul, Nat.reduceLT, Nat.reduceLeDiff, Int.reduceLE, Int.reduceLT, Int.reduceAdd, Int.reduceSub, Int.reduceMul, Int.reduceEq, Int.reduceBEq, Int.reduceBNe, Int.reduceNeg, Int.reduceToNat, reduceCtorEq]
    exact fin _
  have e1' : smallB b 3 7 = true := by simpa using e1
  have hsh : shortB b = true := by simp only [smallB, Bool.and_eq_true] at e1'; exact e1'.1
  have hR := hS.R hsh
  refine rvC_post (ACall.vc (first := []) (args := [.agg (bayC b v)]) (Plan_c b v hR.app)) ?_
  rintro y H1 ⟨hs1, hK⟩
  have b1 : ∀ L, (H1 ++ L)[h.length]? = some (some (.row (bayC b v))) := fun L => getElem?_app_left (hs1.2 _ _ (by simp [bayC]))
  have b1' := b1 []
  rw [List.append_nil] at b1'
  have hs2 : HSub h H1 := HSub.trans HSub.refl.app hs1
  have hR1 := hR.sub hs2
  have fin1 : ∀ L, HSub h (H1 ++ L) := fun L => hs2.app
  by_cases eb : bayB b = true
  · rw [if_pos eb] at hK
    have hsz : b.slots.length ≤ 3 ∧ b.days.length ≤ 7 := by
      simp only [smallB, eb, Bool.not_true, Bool.false_or, Bool.and_eq_true, decide_eq_true_eq] at e1'; omega
    have bs := bayB_spec eb
    have hBst := best_plan eb
    have best : ∀ L, ACall Try.prog w0 33 [.agg (bayC b v)] (H1 ++ L) (BestK w0 (H1 ++ L) b) := fun L => Best_c b v hR1.app eb hsz.1 hsz.2
    by_cases hok : (searchD b b.days.length 0 [-1, -1, -1, -1, -1]).ok = true
    · rw [if_pos hok] at hK hBst
      obtain ⟨x, rfl, hx⟩ := hK
      have hrb := rbay_c (w0 := w0) (h := H1) b v hR1
      rw [eb] at hrb
      simp only [go_sem, b1', ↓reduceIte, Nat.reduceEqDiff, Nat.reduceAdd, Nat.reduceSub, Nat.reduceMul, Nat.reduceLT, Nat.reduceLeDiff, Int.reduceLE, Int.reduceLT, Int.reduceAdd, Int.reduceSub, Int.reduceMul, Int.reduceEq, Int.reduceBEq, Int.reduceBNe, Int.reduceNeg, Int.reduceToNat, reduceCtorEq]
      refine rvC_use hrb.v ?_
      simp only [go_sem, b1', ↓reduceIte, Nat.reduceEqDiff, Nat.reduceAdd, Nat.reduceSub, Nat.reduceMul, Nat.reduceLT, Nat.reduceLeDiff, Int.reduceLE, Int.reduceLT, Int.reduceAdd, Int.reduceSub, Int.reduceMul, Int.reduceEq, Int.reduceBEq, Int.reduceBNe, Int.reduceNeg, Int.reduceToNat, reduceCtorEq]
      have best' := best []
      rw [List.append_nil] at best'
      refine rvC_post (ACall.vc (first := []) (args := [.agg (bayC b v)]) best') ?_
      rintro y2 H2 ⟨hs3, hK2⟩
      rw [hBst] at hK2
      obtain ⟨x2, rfl, hx2⟩ := hK2
      have hx' := hx.sub hs3
      have hpl : (planD b).length < 1000000 := by rw [planD, planG_len]; omega
      have hpb := planG_bd (b := b) b.days.length 0 [-1, -1, -1, -1, -1]
      have hsm := samePlan_c (w0 := w0) (h := H2) (planD b) (planD b) x x2 hx' hx2 hpl (fun l hl => by have := hpb l hl; omega) (fun l hl => by have := hpb l hl; omega)
      simp only [go_sem, ↓reduceIte, Nat.reduceEqDiff, Nat.reduceAdd, Nat.reduceSub, Nat.reduceMul, Nat.reduceLT, Nat.reduceLeDiff, Int.reduceLE, Int.reduceLT, Int.reduceAdd, Int.reduceSub, Int.reduceMul, Int.reduceEq, Int.reduceBEq, Int.reduceBNe, Int.reduceNeg, Int.reduceToNat, reduceCtorEq]
      refine rvC_use hsm.v ?_
      simp only [go_sem, ↓reduceIte, Nat.reduceEqDiff, Nat.reduceAdd, Nat.reduceSub, Nat.reduceMul, Nat.reduceLT, Nat.reduceLeDiff, Int.reduceLE, Int.reduceLT, Int.reduceAdd, Int.reduceSub, Int.reduceMul, Int.reduceEq, Int.reduceBEq, Int.reduceBNe, Int.reduceNeg, Int.reduceToNat, reduceCtorEq]
      refine rvC_use known_c.v ?_
      simp only [go_sem, ↓reduceIte, Nat.reduceEqDiff, Nat.reduceAdd, Nat.reduceSub, Nat.reduceMul, Nat.reduceLT, Nat.reduceLeDiff, Int.reduceLE, Int.reduceLT, Int.reduceAdd, Int.reduceSub, Int.reduceMul, Int.reduceEq, Int.reduceBEq, Int.reduceBNe, Int.reduceNeg, Int.reduceToNat, reduceCtorEq]
      exact HSub.trans hs2 hs3
    · rw [if_neg hok] at hK hBst
      subst hK
      have hrb := rbay_c (w0 := w0) (h := H1) b v hR1
      rw [eb] at hrb
      simp only [go_sem, b1', ↓reduceIte, Nat.reduceEqDiff, Nat.reduceAdd, Nat.reduceSub, Nat.reduceMul, Nat.reduceLT, Nat.reduceLeDiff, Int.reduceLE, Int.reduceLT, Int.reduceAdd, Int.reduceSub, Int.reduceMul, Int.reduceEq, Int.reduceBEq, Int.reduceBNe, Int.reduceNeg, Int.reduceToNat, reduceCtorEq]
      refine rvC_use hrb.v ?_
      simp only [go_sem, b1', ↓reduceIte, Nat.reduceEqDiff, Nat.reduceAdd, Nat.reduceSub, Nat.reduceMul, Nat.reduceLT, Nat.reduceLeDiff, Int.reduceLE, Int.reduceLT, Int.reduceAdd, Int.reduceSub, Int.reduceMul, Int.reduceEq, Int.reduceBEq, Int.reduceBNe, Int.reduceNeg, Int.reduceToNat, reduceCtorEq]
      have best' := best []
      rw [List.append_nil] at best'
      refine rvC_post (ACall.vc (first := []) (args := [.agg (bayC b v)]) best') ?_
      rintro y2 H2 ⟨hs3, hK2⟩
      rw [hBst] at hK2
      subst hK2
      simp only [go_sem, ↓reduceIte, Nat.reduceEqDiff, Nat.reduceAdd, Nat.reduceSub, Nat.reduceMul, Nat.reduceLT, Nat.reduceLeDiff, Int.reduceLE, Int.reduceLT, Int.reduceAdd, Int.reduceSub, Int.reduceMul, Int.reduceEq, Int.reduceBEq, Int.reduceBNe, Int.reduceNeg, Int.reduceToNat, reduceCtorEq]
      refine rvC_use known_c.v ?_
      simp only [go_sem, ↓reduceIte, Nat.reduceEqDiff, Nat.reduceAdd, Nat.reduceSub, Nat.reduceMul, Nat.reduceLT, Nat.reduceLeDiff, Int.reduceLE, Int.reduceLT, Int.reduceAdd, Int.reduceSub, Int.reduceMul, Int.reduceEq, Int.reduceBEq, Int.reduceBNe, Int.reduceNeg, Int.reduceToNat, reduceCtorEq]
      exact HSub.trans hs2 hs3
  · rw [if_neg eb] at hK
    subst hK
    have hrb := rbay_c (w0 := w0) (h := H1) b v hR1
    rw [Bool.not_eq_true] at eb
    rw [eb] at hrb
    simp only [go_sem, b1', ↓reduceIte, Nat.reduceEqDiff, Nat.reduceAdd, Nat.reduceSub, Nat.reduceMul, Nat.reduceLT, Nat.reduceLeDiff, Int.reduceLE, Int.reduceLT, Int.reduceAdd, Int.reduceSub, Int.reduceMul, Int.reduceEq, Int.reduceBEq, Int.reduceBNe, Int.reduceNeg, Int.reduceToNat, reduceCtorEq]
    refine rvC_use hrb.v ?_
    simp only [go_sem, ↓reduceIte, Nat.reduceEqDiff, Nat.reduceAdd, Nat.reduceSub, Nat.reduceMul, Nat.reduceLT, Nat.reduceLeDiff, Int.reduceLE, Int.reduceLT, Int.reduceAdd, Int.reduceSub, Int.reduceMul, Int.reduceEq, Int.reduceBEq, Int.reduceBNe, Int.reduceNeg, Int.reduceToNat, reduceCtorEq]
    refine rvC_use known_c.v ?_
    simp only [go_sem, ↓reduceIte, Nat.reduceEqDiff, Nat.reduceAdd, Nat.reduceSub, Nat.reduceMul, Nat.reduceLT, Nat.reduceLeDiff, Int.reduceLE, Int.reduceLT, Int.reduceAdd, Int.reduceSub, Int.reduceMul, Int.reduceEq, Int.reduceBEq, Int.reduceBNe, Int.reduceNeg, Int.reduceToNat, reduceCtorEq]
    exact hs2
end Go.Proofs.Ab

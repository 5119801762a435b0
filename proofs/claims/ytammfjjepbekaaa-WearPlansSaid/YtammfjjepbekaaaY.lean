/- The own layer under the proofs of this seat, part Y: what calls of the program come to on an abstract heap. No condition. -/
import Derived.Test.YtammfjjepbekaaaX
import Derived.Test.YtammfjjepbekaaaG
set_option linter.unusedSimpArgs false
set_option linter.unusedVariables false
namespace Go.Proofs.Ab
open Go Go.Proofs
variable {w0 : World} {h : Heap}
attribute [local irreducible] ACall ACallV AYield DCall DCallV rvC rdC lp rg dr ex un rv rd'

end Go.Proofs.Ab

namespace Go.Proofs.Ab
open Go

theorem cmpN_trans : ∀ a b c : List Int, 0 ≤ cmpN a b → 0 ≤ cmpN b c → 0 ≤ cmpN a c
  | [], [], c, _, h2 => h2
  | [], _ :: _, _, h1, _ => by simp [cmpN] at h1
  | _ :: _, [], [], h1, _ => h1
  | _ :: _, [], _ :: _, _, h2 => by simp [cmpN] at h2
  | x :: a, y :: b, [], _, _ => by simp [cmpN]
  | x :: a, y :: b, z :: c, h1, h2 => by
    have ih := cmpN_trans a b c
    simp only [cmpN, cmpI] at *
    rcases Int.lt_trichotomy x y with e1 | e1 | e1
    · simp [e1, show ¬ y < x by omega] at h1
    · subst e1
      simp at h1
      rcases Int.lt_trichotomy x z with e2 | e2 | e2
      · simp [e2, show ¬ z < x by omega] at h2
      · subst e2
        simp at h2 ⊢
        exact ih h1 h2
      · simp [e2, show ¬ x < z by omega]
    · rcases Int.lt_trichotomy y z with e2 | e2 | e2
      · simp [e2, show ¬ z < y by omega] at h2
      · subst e2
        simp [e1, show ¬ x < y by omega]
      · simp [show z < x by omega, show ¬ x < z by omega]
theorem cmpN_refl (a : List Int) : cmpN a a = 0 := (cmpN_eq a a).2 rfl

theorem lessC_iff {a b : ChD} : lessC a b = true ↔ (a.ok = true ∧ b.ok = false) ∨ (a.ok = b.ok ∧ (a.nights < b.nights ∨ (a.nights = b.nights ∧ (a.changes < b.changes ∨ (a.changes = b.changes ∧ cmpN a.list b.list < 0))))) := by
  unfold lessC
  cases ha : a.ok <;> cases hb : b.ok <;> simp <;> (try (by_cases e1 : a.nights = b.nights <;> by_cases e2 : a.changes = b.changes <;> simp [e1, e2] <;> omega))
theorem lessC_trans {a b c : ChD} (h1 : lessC a b = false) (h2 : lessC b c = false) : lessC a c = false := by
  rw [← Bool.not_eq_true, lessC_iff] at *
  have t := cmpN_trans a.list b.list c.list
  cases ha : a.ok <;> cases hb : b.ok <;> cases hc : c.ok <;> simp [ha, hb, hc] at h1 h2 ⊢ <;> omega
theorem lessC_asymm {a b : ChD} (h1 : lessC a b = true) : lessC b a = false := by
  rw [← Bool.not_eq_true]
  rw [lessC_iff] at *
  have t := cmpN_symm a.list b.list
  cases ha : a.ok <;> cases hb : b.ok <;> simp [ha, hb] at h1 ⊢ <;> omega
theorem lessC_irr {a : ChD} : lessC a a = false := by
  rw [← Bool.not_eq_true, lessC_iff]
  have t := cmpN_refl a.list
  simp [t]
end Go.Proofs.Ab

namespace Go.Proofs.Ab
open Go

theorem sorted_eq : ∀ {a c : List Int}, a.Pairwise (· < ·) → c.Pairwise (· < ·) → (∀ x, x ∈ a ↔ x ∈ c) → a = c
  | [], [], _, _, _ => rfl
  | [], y :: c, _, _, h => by have := (h y).2 List.mem_cons_self; cases this
  | x :: a, [], _, _, h => by have := (h x).1 List.mem_cons_self; cases this
  | x :: a, y :: c, h1, h2, h => by
    obtain ⟨p1, p2⟩ := List.pairwise_cons.1 h1
    obtain ⟨q1, q2⟩ := List.pairwise_cons.1 h2
    have hxy : x = y := by
      rcases List.mem_cons.1 ((h x).1 List.mem_cons_self) with e | e
      · exact e
      · rcases List.mem_cons.1 ((h y).2 List.mem_cons_self) with e' | e'
        · exact e'.symm
        · have := q1 x e; have := p1 y e'; omega
    subst hxy
    congr 1
    refine sorted_eq p2 q2 fun z => ⟨fun hz => ?_, fun hz => ?_⟩
    · rcases List.mem_cons.1 ((h z).1 (List.mem_cons_of_mem _ hz)) with e | e
      · subst e; have := p1 z hz; omega
      · exact e
    · rcases List.mem_cons.1 ((h z).2 (List.mem_cons_of_mem _ hz)) with e | e
      · subst e; have := q1 z hz; omega
      · exact e
theorem choiceB_iff {b : BayD} {l : List Int} : choiceB b l = true ↔ (∀ x ∈ l, 0 ≤ x ∧ x < b.slots.length) ∧ l.Pairwise (· < ·) := by
  constructor
  · intro h
    refine ⟨choiceB_nat h, ?_⟩
    simp only [choiceB, List.all_eq_true, List.mem_range] at h
    rw [List.pairwise_iff_getElem]
    intro i j hi hj hij
    have step : ∀ k, (hk : k + 1 < l.length) → l[k] < l[k + 1] := fun k hk => by
      have := h (k + 1) hk
      simp only [choiceK, Bool.and_eq_true, Bool.not_eq_true', Nat.add_sub_cancel, getD_at hk, getD_at (show k < l.length by omega)] at this
      have h2 := this.2
      simpa using h2
    obtain ⟨m, rfl⟩ : ∃ m, j = i + 1 + m := ⟨j - (i + 1), by omega⟩
    clear hij
    induction m with
    | zero => exact step i hj
    | succ m ih =>
      have := ih (by omega)
      exact Int.lt_trans (this step) (step (i + 1 + m) (by omega))
  · rintro ⟨h1, h2⟩
    simp only [choiceB, List.all_eq_true, List.mem_range]
    intro k hk
    have hx := h1 l[k] (List.getElem_mem hk)
    have e1 : inB (l.getD k 0) 0 (b.slots.length - 1) = true := by
      rw [getD_at hk]; simp only [inB, Bool.and_eq_true, decide_eq_true_eq]; omega
    rw [choiceK, e1, Bool.true_and]
    by_cases h0 : 0 < k
    · have := List.pairwise_iff_getElem.1 h2 (k - 1) k (by omega) hk (by omega)
      rw [getD_at hk, getD_at (show k - 1 < l.length by omega)]
      have : ¬ l[k] ≤ l[k - 1] := by omega
      simp [this]
    · simp [h0]
theorem mem_listed {bits : Nat} {x : Int} : x ∈ listedD bits ↔ ∃ s : Nat, s < 5 ∧ bits.testBit s = true ∧ x = (s : Int) := by
  simp only [listedD, bitsL, List.mem_map, List.mem_filter, List.mem_range, beq_iff_eq]
  constructor
  · rintro ⟨s, ⟨h1, h2⟩, rfl⟩
    exact ⟨s, h1, by rw [Nat.testBit_eq_decide_div_mod_eq]; simpa using h2, rfl⟩
  · rintro ⟨s, h1, h2, rfl⟩
    exact ⟨s, ⟨h1, by rw [Nat.testBit_eq_decide_div_mod_eq] at h2; simpa using h2⟩, rfl⟩
theorem listed_sorted (bits : Nat) : (listedD bits).Pairwise (· < ·) := by
  simp only [listedD, bitsL]
  rw [List.pairwise_map]
  refine List.Pairwise.filter _ ?_
  exact List.pairwise_lt_range.imp fun {a c} h => by simp only [Int.ofNat_eq_natCast]; omega
theorem listed_choice {b : BayD} {bits : Nat} (h : bits < 2 ^ b.slots.length) : choiceB b (listedD bits) = true := by
  refine choiceB_iff.2 ⟨fun x hx => ?_, listed_sorted bits⟩
  obtain ⟨s, h1, h2, rfl⟩ := mem_listed.1 hx
  refine ⟨by omega, ?_⟩
  have := Nat.ge_two_pow_of_testBit h2
  rcases Nat.lt_or_ge s b.slots.length with e | e
  · omega
  · have := Nat.pow_le_pow_right (n := 2) (by omega) e; omega
theorem choice_listed {b : BayD} (hN : b.slots.length ≤ 5) {c : List Int} (h : choiceB b c = true) : ∃ bits, bits < 2 ^ b.slots.length ∧ listedD bits = c := by
  obtain ⟨h1, h2⟩ := choiceB_iff.1 h
  obtain ⟨bits, hb⟩ : ∃ bits : Nat, ∀ i, bits.testBit i = c.any fun x => x.toNat == i := by
    clear h1 h2 h
    induction c with
    | nil => exact ⟨0, by simp⟩
    | cons x c ih =>
      obtain ⟨m, hm⟩ := ih
      refine ⟨m ||| 2 ^ x.toNat, fun i => ?_⟩
      rw [Nat.testBit_or, hm, Nat.testBit_two_pow, List.any_cons, Bool.or_comm]
      congr 1
  refine ⟨bits, ?_, ?_⟩
  · refine Nat.lt_pow_two_of_testBit _ fun i hi => ?_
    rw [hb, List.any_eq_false]
    intro x hx
    have := h1 x hx
    simp; omega
  · refine sorted_eq (listed_sorted bits) h2 fun x => ?_
    rw [mem_listed]
    constructor
    · rintro ⟨s, hs, hbs, rfl⟩
      rw [hb, List.any_eq_true] at hbs
      obtain ⟨y, hy, e⟩ := hbs
      have := h1 y hy
      have e : y.toNat = s := by simpa using e
      have : y = (s : Int) := by omega
      exact this ▸ hy
    · intro hx
      have := h1 x hx
      exact ⟨x.toNat, by omega, by rw [hb, List.any_eq_true]; exact ⟨x, hx, by simp⟩, by omega⟩

theorem fold_min {α : Type} (P : α → Bool) (f : α → ChD) (step : ChD → α → ChD) (hs : ∀ cur a, step cur a = if P a = true then (if lessC (f a) cur = true then f a else cur) else cur) :
    ∀ (l : List α) (cur : ChD), (l.foldl step cur = cur ∨ ∃ a ∈ l, P a = true ∧ l.foldl step cur = f a) ∧ (∀ a ∈ l, P a = true → lessC (f a) (l.foldl step cur) = false) ∧ lessC cur (l.foldl step cur) = false
  | [], cur => ⟨.inl rfl, (fun a ha => by cases ha), lessC_irr⟩
  | a :: l, cur => by
    obtain ⟨h1, h2, h3⟩ := fold_min P f step hs l (step cur a)
    simp only [List.foldl_cons]
    have hst := hs cur a
    have hle : lessC cur (step cur a) = false := by
      rw [hst]
      split
      · split
        · rename_i e; exact lessC_asymm e
        · exact lessC_irr
      · exact lessC_irr
    have hfa : P a = true → lessC (f a) (step cur a) = false := fun hp => by
      rw [hst, if_pos hp]
      split
      · exact lessC_irr
      · rename_i e; simpa using e
    refine ⟨?_, fun x hx hp => ?_, lessC_trans hle h3⟩
    · rcases h1 with h1 | ⟨x, hx, hp, h1⟩
      · rw [h1, hst]
        split
        · rename_i hp
          split
          · exact .inr ⟨a, List.mem_cons_self, hp, rfl⟩
          · exact .inl rfl
        · exact .inl rfl
      · exact .inr ⟨x, List.mem_cons_of_mem _ hx, hp, h1⟩
    · rcases List.mem_cons.1 hx with rfl | hx
      · exact lessC_trans (hfa hp) h3
      · exact h2 x hx hp
end Go.Proofs.Ab

namespace Go.Proofs.Ab
open Go

def candC (b : BayD) (k n : Nat) (p : List Int) (c : List Int) : ChD :=
  ⟨(searchD b k (n + 1) (putD n p (c.map Int.toNat))).nights + min 1 c.length, (searchD b k (n + 1) (putD n p (c.map Int.toNat))).changes + c.length, c, true⟩
def candP (b : BayD) (k n : Nat) (p : List Int) (c : List Int) : Bool := allowD b n p c && (searchD b k (n + 1) (putD n p (c.map Int.toNat))).ok
theorem searchD_spec {b : BayD} (hN : b.slots.length ≤ 5) (k n : Nat) (p : List Int) :
    (searchD b (k + 1) n p = ⟨0, 0, [], false⟩ ∨ ∃ c, choiceB b c = true ∧ candP b k n p c = true ∧ searchD b (k + 1) n p = candC b k n p c) ∧ (∀ c, choiceB b c = true → candP b k n p c = true → lessC (candC b k n p c) (searchD b (k + 1) n p) = false) := by
  obtain ⟨h1, h2, _⟩ := fold_min (fun bits => candP b k n p (listedD bits)) (fun bits => candC b k n p (listedD bits)) (stepS b (searchD b k (n + 1)) n p) (fun cur a => rfl) (List.range (2 ^ b.slots.length)) ⟨0, 0, [], false⟩
  refine ⟨?_, fun c hc hp => ?_⟩
  · rcases h1 with h1 | ⟨a, ha, hp, h1⟩
    · exact .inl h1
    · exact .inr ⟨listedD a, listed_choice (List.mem_range.1 ha), hp, h1⟩
  · obtain ⟨bits, hb, rfl⟩ := choice_listed hN hc
    exact h2 bits (List.mem_range.2 hb) hp

theorem lessI_ne {a c : List Int} (h1 : lessI a c = false) (h2 : lessI c a = false) : a = c := by
  have := same_eq a c
  rw [h1, h2] at this
  simpa using this.symm
end Go.Proofs.Ab

namespace Go.Proofs.Ab
open Go

theorem putD_get {n : Nat} : ∀ {c : List Nat} {p : List Int} {s : Nat}, s < p.length → (putD n p c).getD s 0 = if (c.any fun x => x == s) = true then (n : Int) else p.getD s 0
  | [], p, s, _ => by simp [putD]
  | x :: c, p, s, hs => by
    have ih := putD_get (n := n) (c := c) (p := p.set x n) (s := s) (by simpa using hs)
    simp only [putD, List.foldl_cons] at ih ⊢
    rw [ih]
    by_cases e : x = s
    · subst e
      simp [List.getD_eq_getElem?_getD, List.getElem?_set_self hs]
    · have : (p.set x (n : Int)).getD s 0 = p.getD s 0 := by rw [List.getD_eq_getElem?_getD, List.getElem?_set_ne e, ← List.getD_eq_getElem?_getD]
      rw [this, List.any_cons, beq_eq_false_iff_ne.2 e, Bool.false_or]
end Go.Proofs.Ab

namespace Go.Proofs.Ab
open Go Go.Proofs
variable {w0 : World} {h : Heap}
attribute [local irreducible] ACall ACallV AYield DCall DCallV rvC rdC lp rg dr ex un rv rd'

theorem planG_bd {b : BayD} : ∀ (k n : Nat) (p : List Int), ∀ l ∈ planG b k n p, l.length < 1000000
  | 0, _, _, l, hl => by simp [planG] at hl
  | k + 1, n, p, l, hl => by
    simp only [planG, List.mem_cons] at hl
    rcases hl with rfl | hl
    · have := (searchD_ok b (k + 1) n p).2.2.2.2; omega
    · exact planG_bd k _ _ l hl
theorem planG_len {b : BayD} : ∀ (k n : Nat) (p : List Int), (planG b k n p).length = k
  | 0, _, _ => rfl
  | k + 1, n, p => by simp [planG, planG_len k]

end Go.Proofs.Ab

namespace Go.Proofs.Ab
open Go Go.Proofs
variable {w0 : World} {h : Heap}
attribute [local irreducible] ACall ACallV AYield DCall DCallV rvC rdC lp rg dr ex un rv rd'

structure Gro (h H : Heap) (es n : Nat) (ov : AV) (vs : List AV) : Prop where
  sub : HSub h H
  own : n = 0 ∧ ov = .nilS ∧ vs = [] ∨ ∃ io, h.length ≤ io ∧ n ≠ 0 ∧ ov = .sl (.own io 0) n es false ∧ H[io]? = some (some (.row vs)) ∧ vs.length = n * es
theorem Gro.nil {H : Heap} {es : Nat} (s : HSub h H) : Gro h H es 0 .nilS [] := ⟨s, .inl ⟨rfl, rfl, rfl⟩⟩
theorem Gro.app {H L : Heap} {es n : Nat} {ov : AV} {vs : List AV} (g : Gro h H es n ov vs) : Gro h (H ++ L) es n ov vs := by
  refine ⟨g.sub.app, ?_⟩
  rcases g.own with h1 | ⟨io, h1, h2, h3, h4, h5⟩
  · exact .inl h1
  · exact .inr ⟨io, h1, h2, h3, getElem?_app_left h4, h5⟩
theorem Gro.more {H : Heap} {es b n k : Nat} {ov : AV} {vs x : List AV} {f : Bool} (g : Gro h H es n ov vs) (hk : H[k]? = some (some (.row x))) (hx : x.length = es) (ho : x.all one = true) (hb : b ≤ 1000000) (hn : n ≤ 1000000) :
    ∃ G, appA w0 H es b ov (.sl (.own k 0) 1 es f) = some (.sl (.own H.length 0) (n + 1) es false, G) ∧ Gro h G es (n + 1) (.sl (.own H.length 0) (n + 1) es false) (vs ++ x) := by
  have hlen : vs.length = n * es := by
    rcases g.own with ⟨h1, _, h3⟩ | ⟨_, _, _, _, _, h5⟩
    · subst h1; subst h3; simp
    · exact h5
  have hov : ∃ io, (n ≠ 0 → h.length ≤ io) ∧ (n = 0 ∧ ov = .nilS ∧ vs = [] ∨ n ≠ 0 ∧ ov = .sl (.own io 0) n es false ∧ H[io]? = some (some (.row vs)) ∧ vs.length = n * es) := by
    rcases g.own with h1 | ⟨io, h1, h2, h3, h4, h5⟩
    · exact ⟨0, fun h => absurd h1.1 h, .inl h1⟩
    · exact ⟨io, fun _ => h1, .inr ⟨h2, h3, h4, h5⟩⟩
  obtain ⟨io, hio, hov⟩ := hov
  obtain ⟨G, e1, e2, e3, e4⟩ := app_grow (w0 := w0) (b := b) (f := f) hov hk hx ho hb hn
  have hs := g.sub
  refine ⟨G, e1, ⟨⟨by have := hs.1; omega, fun i c e => e4 i c (fun h0 => by have := hio h0; have := get_lt e; omega) (hs.2 i c e)⟩, .inr ⟨H.length, hs.1, by omega, rfl, e3, by rw [List.length_append, hlen, hx, Nat.succ_mul]⟩⟩⟩
theorem Gro.sl {H : Heap} {es n : Nat} {ov : AV} {rows : List (List AV)} (g : Gro h H es n ov rows.flatten) (hr : ∀ c ∈ rows, c.length = es) (hn : n = rows.length) (hes : es ≠ 0) : Sl w0 H es ov rows := by
  rcases g.own with ⟨h1, h2, h3⟩ | ⟨io, h1, h2, h3, h4, h5⟩
  · refine .inl ⟨h2, ?_⟩
    rw [hn] at h1; exact List.eq_nil_of_length_eq_zero h1
  · subst h3
    have hlt := get_lt h4
    have e : H = H.take io ++ H.drop io := (List.take_append_drop io H).symm
    have hl : (H.take io).length = io := by rw [List.length_take]; omega
    have := Sl_lit (w0 := w0) (h := H.take io) rows (es := es) false (L := H.drop io) 0 (by rw [List.getElem?_drop, Nat.add_zero]; exact h4) hr
    rw [← e, hl, Nat.add_zero, ← hn] at this
    exact this
theorem ints_flat (l : List Int) : ints l = (l.map fun z => [AV.int .i64 z]).flatten := by
  induction l with
  | nil => rfl
  | cons a l ih => simp [ints] at ih ⊢; exact ih
theorem Gro.sli {H : Heap} {n : Nat} {ov : AV} {l : List Int} (g : Gro h H 1 n ov (ints l)) (hn : n = l.length) : SlI w0 H ov l := by
  rw [ints_flat] at g
  exact g.sl (by simp) (by simpa using hn) (by omega)

theorem slots_c (bits many : Nat) (hm : many ≤ 5) (hbits : bits < 2 ^ 60) : ACall Try.prog w0 116 [.int .i64 bits, .int .i64 many] h fun y h' => Gro h h' 1 (bitsL bits many).length y (ints (bitsL bits many)) := by
  refine ACall_sx hmix mf116_ok mf116_b mf116_g (Nat.le_of_ble_eq_true rfl) fun hb ha => ex_in ?_
  simp only [go_sem, mf116, ↓reduceIte, Nat.reduceEqDiff, Nat.reduceAdd, Nat.reduceSub, Nat.reduceMul, Nat.reduceLT, Nat.reduceLeDiff, Int.reduceLE, Int.reduceLT, Int.reduceAdd, Int.reduceSub, Int.reduceMul, Int.reduceEq, Int.reduceBEq, Int.reduceBNe, Int.reduceNeg, Int.reduceToNat, reduceCtorEq]
  rw [List.append_nil]
  refine lp_ind (S := Nat × Heap × AV) (F := fun s => [(0, .int .i64 bits), (1, .int .i64 many), (5, s.2.2), (6, .int .i64 s.1)]) (H := fun s => s.2.1) (meas := fun s => many - s.1)
    (Inv := fun s => s.1 ≤ many ∧ Gro h s.2.1 1 (bitsL bits s.1).length s.2.2 (ints (bitsL bits s.1))) (0, h, .nilS) ⟨Nat.zero_le _, Gro.nil HSub.refl⟩ rfl rfl ?_
  rintro ⟨j, H, ov⟩ ⟨hj, g⟩ ih
  simp only at hj g ih
  refine lp_step hmix L116_0_g [0, 1, 5, 6] L116_0.eq_1 ?_
  by_cases hjm : j < many
  · have e1 : (j : Int) < many := by omega
    have e2 := bin_shr (a := bits) (n := j) (by omega)
    have e3 := bin_and1 (a := bits / 2 ^ j) (by have := Nat.div_le_self bits (2 ^ j); omega)
    have hl5 := bitsL_len (bits := bits) (j := j)
    simp only [go_sem, e1, e2, e3, ↓reduceIte, Nat.reduceEqDiff, Nat.reduceAdd, Nat.reduceSub, Nat.reduceMul, Nat.reduceLT, Nat.reduceLeDiff, Int.reduceLE, Int.reduceLT, Int.reduceAdd, Int.reduceSub, Int.reduceMul, Int.reduceEq, Int.reduceBEq, Int.reduceBNe, Int.reduceNeg, Int.reduceToNat, reduceCtorEq]
    refine ⟨fun e => ?_, fun e => ⟨(by unfold I64; omega), ?_⟩⟩
    · obtain ⟨G, eG, gG⟩ := (g.app (L := [some (.row [.int .i64 (j : Int)])])).more (w0 := w0) (b := 8) (k := H.length) (x := [.int .i64 (j : Int)]) (f := true) (by simp) rfl rfl (by omega) (by omega)
      simp only [go_sem, eG, ↓reduceIte, Nat.reduceEqDiff, Nat.reduceAdd, Nat.reduceSub, Nat.reduceMul, Nat.reduceLT, Nat.reduceLeDiff, Int.reduceLE, Int.reduceLT, Int.reduceAdd, Int.reduceSub, Int.reduceMul, Int.reduceEq, Int.reduceBEq, Int.reduceBNe, Int.reduceNeg, Int.reduceToNat, reduceCtorEq]
      refine ⟨(by unfold I64; omega), ?_⟩
      have hs : bitsL bits (j + 1) = bitsL bits j ++ [(j : Int)] := by rw [bitsL_succ, if_pos (by omega)]
      have := ih (j + 1, G, _) ⟨by simp only; omega, by simp only; rw [hs, List.length_append, ← ints_app]; exact gG⟩ (by simp only; omega)
      simpa using this
    · have hs : bitsL bits (j + 1) = bitsL bits j := by rw [bitsL_succ, if_neg (by omega)]
      have := ih (j + 1, H, ov) ⟨by simp only; omega, by simp only; rw [hs]; exact g⟩ (by simp only; omega)
      simpa using this
  · have : j = many := by omega
    subst this
    have e1 : ¬ (j : Int) < j := by omega
    simp only [go_sem, e1, ↓reduceIte, Nat.reduceEqDiff, Nat.reduceAdd, Nat.reduceSub, Nat.reduceMul, Nat.reduceLT, Nat.reduceLeDiff, Int.reduceLE, Int.reduceLT, Int.reduceAdd, Int.reduceSub, Int.reduceMul, Int.reduceEq, Int.reduceBEq, Int.reduceBNe, Int.reduceNeg, Int.reduceToNat, reduceCtorEq]
    exact g
end Go.Proofs.Ab

namespace Go.Proofs.Ab
open Go Go.Proofs
variable {w0 : World} {h : Heap}
attribute [local irreducible] ACall ACallV AYield DCall DCallV rvC rdC lp rg dr ex un rv rd'

def putsD (B : Nat) (N : Nat) (x : Nat) : List Int := (List.range N).map fun s => ((x / B ^ s % B : Nat) : Int) - 1
theorem putsD_succ {B N x : Nat} : putsD B (N + 1) x = putsD B N x ++ [((x / B ^ N % B : Nat) : Int) - 1] := by simp [putsD, List.range_succ]
theorem putsD_len {B N x : Nat} : (putsD B N x).length = N := by simp [putsD]
def encN (B : Nat) : List Int → Nat
  | [] => 0
  | p :: l => encN B l * B + (p + 1).toNat

theorem puts_c (b : BayD) (v : BayV) (x : Nat) (hR : BayR w0 h b v) (hx : x < 1000000) : ACall Try.prog w0 82 [.agg (bayC b v), .int .i64 x] h fun y h' => HSub h h' ∧ SlI w0 h' y (putsD (b.days.length + 1) b.slots.length x) := by
  refine ACall_sx hmix mf82_ok mf82_b mf82_g (Nat.le_of_ble_eq_true rfl) fun hb ha => ex_in ?_
  have o1 := hR.kinds.one.1
  have o2 := hR.slots.one.1
  have o3 := hR.days.one.1
  have o4 := hR.nights.one.1
  have o5 := hR.defs.one.1
  have l1 := hR.slots.use.1
  have l2 := hR.days.use.1
  have hl := hR.len
  simp only [List.length_map] at l1 l2
  obtain ⟨B, eB⟩ : ∃ B, B = b.days.length + 1 := ⟨_, rfl⟩
  rw [← eB]
  simp only [go_sem, mf82, o1, o2, o3, o4, o5, ↓reduceIte, Nat.reduceEqDiff, Nat.reduceAdd, Nat.reduceSub, Nat.reduceMul, Nat.reduceLT, Nat.reduceLeDiff, Int.reduceLE, Int.reduceLT, Int.reduceAdd, Int.reduceSub, Int.reduceMul, Int.reduceEq, Int.reduceBEq, Int.reduceBNe, Int.reduceNeg, Int.reduceToNat, reduceCtorEq]
  refine lp_ind (S := Nat × Heap × AV) (F := fun s => [(1, .int .i64 ((x / B ^ s.1 : Nat) : Int)), (2, .ptr (.own h.length 0)), (5, s.2.2), (6, .int .i64 s.1)]) (H := fun s => s.2.1) (meas := fun s => b.slots.length - s.1)
    (Inv := fun s => s.1 ≤ b.slots.length ∧ s.2.1[h.length]? = some (some (.row (bayC b v))) ∧ Gro (h ++ [some (.row (bayC b v))]) s.2.1 1 s.1 s.2.2 (ints (putsD B s.1 x))) (0, _, .nilS) ⟨Nat.zero_le _, by simp [bayC], Gro.nil HSub.refl⟩ (by simp) rfl ?_
  rintro ⟨j, H, ov⟩ ⟨hj, hbx, g⟩ ih
  simp only at hj hbx g ih
  refine lp_step hmix L82_0_g [1, 2, 5, 6] L82_0.eq_1 ?_
  have b1 : ∀ L, (H ++ L)[h.length]? = some (some (.row (bayC b v))) := fun L => getElem?_app_left hbx
  by_cases hjm : j < b.slots.length
  · have e1 : (j : Int) < b.slots.length := by omega
    have e2 : ¬ (b.days.length : Int) + 1 = 0 := by omega
    obtain ⟨xj, exj⟩ : ∃ xj, xj = x / B ^ j := ⟨_, rfl⟩
    obtain ⟨xn, exn⟩ : ∃ xn, xn = x / B ^ (j + 1) := ⟨_, rfl⟩
    obtain ⟨xm, exm⟩ : ∃ xm, xm = xj % B := ⟨_, rfl⟩
    have eBI : (b.days.length : Int) + 1 = ((B : Nat) : Int) := by omega
    have e3 : (xj : Int).tmod ((b.days.length : Int) + 1) = (xm : Int) := by
      rw [Int.tmod_eq_emod_of_nonneg (Int.natCast_nonneg _), eBI, exm]; rfl
    have e4 : (xj : Int).tdiv ((b.days.length : Int) + 1) = (xn : Int) := by
      rw [Int.tdiv_eq_ediv_of_nonneg (Int.natCast_nonneg _), eBI, exn, Nat.pow_succ, ← Nat.div_div_eq_div_mul, ← exj]; rfl
    have hq : xm ≤ xj := by rw [exm]; exact Nat.mod_le _ _
    have hq2 : xj ≤ x := by rw [exj]; exact Nat.div_le_self _ _
    have hq3 : xn ≤ x := by rw [exn]; exact Nat.div_le_self _ _
    rw [← exj]
    have ih := fun G ov => ih (j + 1, G, ov)
    simp only [putsD_succ, ← exj, ← exn, ← exm] at ih
    clear exj exn exm
    simp only [go_sem, hbx, b1, l1, l2, e1, e2, e3, ↓reduceIte, Nat.reduceEqDiff, Nat.reduceAdd, Nat.reduceSub, Nat.reduceMul, Nat.reduceLT, Nat.reduceLeDiff, Int.reduceLE, Int.reduceLT, Int.reduceAdd, Int.reduceSub, Int.reduceMul, Int.reduceEq, Int.reduceBEq, Int.reduceBNe, Int.reduceNeg, Int.reduceToNat, reduceCtorEq]
    obtain ⟨G, eG, gG⟩ := (g.app (L := [some (.row [.int .i64 ((xm : Int) - 1)])])).more (w0 := w0) (b := 8) (k := H.length) (x := [.int .i64 ((xm : Int) - 1)]) (f := true) (by simp) rfl rfl (by omega) (by omega)
    have hbG : G[h.length]? = some (some (.row (bayC b v))) := gG.sub.2 _ _ (by simp)
    simp only [go_sem, eG, hbG, l2, e2, e4, ↓reduceIte, Nat.reduceEqDiff, Nat.reduceAdd, Nat.reduceSub, Nat.reduceMul, Nat.reduceLT, Nat.reduceLeDiff, Int.reduceLE, Int.reduceLT, Int.reduceAdd, Int.reduceSub, Int.reduceMul, Int.reduceEq, Int.reduceBEq, Int.reduceBNe, Int.reduceNeg, Int.reduceToNat, reduceCtorEq]
    refine ⟨(by unfold I64; omega), (by unfold I64; omega), (by unfold I64; omega), (by unfold I64; omega), (by unfold I64; omega), ?_⟩
    have := ih G _ ⟨by omega, hbG, by rw [← ints_app]; exact gG⟩ (by omega)
    simpa using this
  · have : j = b.slots.length := by omega
    subst this
    have e1 : ¬ (b.slots.length : Int) < b.slots.length := by omega
    simp only [go_sem, hbx, b1, l1, e1, ↓reduceIte, Nat.reduceEqDiff, Nat.reduceAdd, Nat.reduceSub, Nat.reduceMul, Nat.reduceLT, Nat.reduceLeDiff, Int.reduceLE, Int.reduceLT, Int.reduceAdd, Int.reduceSub, Int.reduceMul, Int.reduceEq, Int.reduceBEq, Int.reduceBNe, Int.reduceNeg, Int.reduceToNat, reduceCtorEq]
    exact ⟨HSub.trans HSub.refl.app g.sub, g.sli putsD_len.symm⟩

theorem past_c (p : List Int) (n : Int) (pv : AV) (hp : SlI w0 h pv p) (hn : p.length < 1000000) : DCall Try.prog w0 83 [pv, .int .i64 n] h (.bool (p.all fun x => decide (x < n))) h := by
  refine DCall_quiet hmix mf83_ok mf83_b mf83_g (Nat.le_of_ble_eq_true rfl) (by simp [AV.bdd, AV.bdds]) fun hb ha => ex_in ?_
  obtain ⟨ln, q, ix, row⟩ := hp.use
  simp only [go_sem, mf83, ↓reduceIte, Nat.reduceEqDiff, Nat.reduceAdd, Nat.reduceSub, Nat.reduceMul, Nat.reduceLT, Nat.reduceLeDiff, Int.reduceLE, Int.reduceLT, Int.reduceAdd, Int.reduceSub, Int.reduceMul, Int.reduceEq, Int.reduceBEq, Int.reduceBNe, Int.reduceNeg, Int.reduceToNat, reduceCtorEq]
  refine lp_all (fun j => [(0, pv), (1, .int .i64 n), (5, .int .i64 j)]) (fun j => ∀ hj : j < p.length, p[j] < n) p.length rfl (fun j hj hall ih => ?_) (fun hall => ?_)
  · refine lp_step hmix L83_0_g [0, 1, 5] L83_0.eq_1 ?_
    have e1 : (j : Int) < p.length := by omega
    have i1 := ix j hj
    have r1 := row j hj
    have r1' := r1 []
    rw [List.append_nil] at r1'
    simp only [go_sem, ln, e1, i1, r1, r1', ↓reduceIte, Nat.reduceEqDiff, Nat.reduceAdd, Nat.reduceSub, Nat.reduceMul, Nat.reduceLT, Nat.reduceLeDiff, Int.reduceLE, Int.reduceLT, Int.reduceAdd, Int.reduceSub, Int.reduceMul, Int.reduceEq, Int.reduceBEq, Int.reduceBNe, Int.reduceNeg, Int.reduceToNat, reduceCtorEq]
    refine ⟨fun e => ?_, fun e => ⟨(by unfold I64; omega), ih fun _ => by omega⟩⟩
    rw [List.all_eq_false.2 ⟨p[j], List.getElem_mem hj, by simp; omega⟩]
  · refine lp_step hmix L83_0_g [0, 1, 5] L83_0.eq_1 ?_
    have e1 : ¬ (p.length : Int) < p.length := by omega
    simp only [go_sem, ln, e1, ↓reduceIte, Nat.reduceEqDiff, Nat.reduceAdd, Nat.reduceSub, Nat.reduceMul, Nat.reduceLT, Nat.reduceLeDiff, Int.reduceLE, Int.reduceLT, Int.reduceAdd, Int.reduceSub, Int.reduceMul, Int.reduceEq, Int.reduceBEq, Int.reduceBNe, Int.reduceNeg, Int.reduceToNat, reduceCtorEq]
    rw [List.all_eq_true.2 fun x hx => by
      obtain ⟨i, hi, rfl⟩ := List.getElem_of_mem hx
      simpa using hall i hi hi]

theorem encN_bd {B : Nat} (hB : 0 < B) : ∀ {p : List Int}, (∀ x ∈ p, -1 ≤ x ∧ x + 1 < (B : Int)) → encN B p < B ^ p.length
  | [], _ => by simp [encN]
  | x :: p, h => by
    have ih := encN_bd hB (p := p) fun y hy => h y (List.mem_cons_of_mem _ hy)
    have hx := h x List.mem_cons_self
    simp only [encN, List.length_cons, Nat.pow_succ]
    have : (x + 1).toNat < B := by omega
    calc encN B p * B + (x + 1).toNat < encN B p * B + B := by omega
      _ = (encN B p + 1) * B := by rw [Nat.succ_mul]
      _ ≤ B ^ p.length * B := Nat.mul_le_mul_right _ ih
theorem state_c (b : BayD) (v : BayV) (p : List Int) (pv : AV) (hR : BayR w0 h b v) (hp : SlI w0 h pv p) (hn : p.length ≤ 5) (hd : b.days.length ≤ 30) (hpb : ∀ x ∈ p, -1 ≤ x ∧ x < (b.days.length : Int)) :
    DCall Try.prog w0 117 [.agg (bayC b v), pv] h (.int .i64 (encN (b.days.length + 1) p)) h := by
  refine DCall_quiet hmix mf117_ok mf117_b mf117_g (Nat.le_of_ble_eq_true rfl) (by simp [AV.bdd, AV.bdds]) fun hb ha => ex_in ?_
  have o1 := hR.kinds.one.1
  have o2 := hR.slots.one.1
  have o3 := hR.days.one.1
  have o4 := hR.nights.one.1
  have o5 := hR.defs.one.1
  have l2 := hR.days.use.1
  simp only [List.length_map] at l2
  obtain ⟨ln, q, ix, row⟩ := hp.use
  obtain ⟨B, eB⟩ : ∃ B, B = b.days.length + 1 := ⟨_, rfl⟩
  rw [← eB]
  simp only [go_sem, mf117, o1, o2, o3, o4, o5, ln, ↓reduceIte, Nat.reduceEqDiff, Nat.reduceAdd, Nat.reduceSub, Nat.reduceMul, Nat.reduceLT, Nat.reduceLeDiff, Int.reduceLE, Int.reduceLT, Int.reduceAdd, Int.reduceSub, Int.reduceMul, Int.reduceEq, Int.reduceBEq, Int.reduceBNe, Int.reduceNeg, Int.reduceToNat, reduceCtorEq]
  refine ⟨(by unfold I64; omega), ?_⟩
  refine lp_for (S := Unit) (fun j _ => [(1, pv), (2, .ptr (.own h.length 0)), (5, .int .i64 (encN B (p.drop (p.length - j)))), (6, .int .i64 ((p.length : Int) - 1 - j))]) (fun _ _ => h ++ [some (.row (bayC b v))]) (fun _ _ => True) p.length () trivial (by simp [encN]) (by simp [bayC]) (fun j _ hj _ ih => ?_) (fun _ _ => ?_)
  · refine lp_step hmix L117_0_g [1, 2, 5, 6] L117_0.eq_1 ?_
    obtain ⟨s, es⟩ : ∃ s, s = p.length - 1 - j := ⟨_, rfl⟩
    have c0 : (p.length : Int) - 1 - j = s := by omega
    have hs : s < p.length := by omega
    have e1 : (0 : Int) ≤ s := by omega
    have i1 := ix s hs
    have r1 := row s hs
    have hx := hpb p[s] (List.getElem_mem hs)
    have hdr : p.drop (p.length - (j + 1)) = p[s] :: p.drop (p.length - j) := by
      rw [show p.length - (j + 1) = s by omega, show p.length - j = s + 1 by omega]
      exact List.drop_eq_getElem_cons hs
    have hbd := encN_bd (B := B) (by omega) (p := p.drop (p.length - j)) fun x hx => by
      have := hpb x (List.mem_of_mem_drop hx); omega
    have hpw : B ^ (p.drop (p.length - j)).length ≤ 31 ^ 5 := Nat.le_trans (Nat.pow_le_pow_left (by omega) _) (Nat.pow_le_pow_right (by omega) (by rw [List.length_drop]; omega))
    have hmul : encN B (p.drop (p.length - j)) * B ≤ 31 ^ 5 * 31 := Nat.mul_le_mul (by omega) (by omega)
    have hpos : (0 : Int) ≤ (encN B (p.drop (p.length - j)) : Int) * ((b.days.length : Int) + 1) := Int.mul_nonneg (by omega) (by omega)
    have hle : (encN B (p.drop (p.length - j)) : Int) * ((b.days.length : Int) + 1) ≤ ((31 ^ 5 * 31 : Nat) : Int) := by
      rw [show ((b.days.length : Int) + 1) = ((B : Nat) : Int) by omega, ← Int.natCast_mul]; omega
    have heq : (encN B (p.drop (p.length - j)) : Int) * ((b.days.length : Int) + 1) + p[s] + 1 = ((encN B (p.drop (p.length - (j + 1))) : Nat) : Int) := by
      rw [hdr, encN, Int.natCast_add, Int.natCast_mul, show ((B : Nat) : Int) = (b.days.length : Int) + 1 by omega]; omega
    have ih := ih () trivial
    rw [← heq, show (p.length : Int) - 1 - ((j + 1 : Nat) : Int) = (s : Int) - 1 by omega] at ih
    rw [c0]
    simp only [go_sem, e1, l2, i1, r1, ↓reduceIte, Nat.reduceEqDiff, Nat.reduceAdd, Nat.reduceSub, Nat.reduceMul, Nat.reduceLT, Nat.reduceLeDiff, Int.reduceLE, Int.reduceLT, Int.reduceAdd, Int.reduceSub, Int.reduceMul, Int.reduceEq, Int.reduceBEq, Int.reduceBNe, Int.reduceNeg, Int.reduceToNat, reduceCtorEq]
    obtain ⟨M, eM⟩ : ∃ M, M = (encN B (p.drop (p.length - j)) : Int) * ((b.days.length : Int) + 1) := ⟨_, rfl⟩
    rw [← eM] at hpos hle ih ⊢
    exact ⟨(by unfold I64; omega), (by unfold I64; omega), (by unfold I64; omega), (by unfold I64; omega), (by unfold I64; omega), by simpa [bayC] using ih⟩
  · refine lp_step hmix L117_0_g [1, 2, 5, 6] L117_0.eq_1 ?_
    have e1 : ¬ (0 : Int) ≤ (p.length : Int) - 1 - p.length := by omega
    simp only [go_sem, e1, ↓reduceIte, Nat.reduceEqDiff, Nat.reduceAdd, Nat.reduceSub, Nat.reduceMul, Nat.reduceLT, Nat.reduceLeDiff, Int.reduceLE, Int.reduceLT, Int.reduceAdd, Int.reduceSub, Int.reduceMul, Int.reduceEq, Int.reduceBEq, Int.reduceBNe, Int.reduceNeg, Int.reduceToNat, reduceCtorEq]
    rw [Nat.sub_self, List.drop_zero]
end Go.Proofs.Ab

namespace Go.Proofs.Ab
open Go Go.Proofs
variable {w0 : World} {h : Heap}
attribute [local irreducible] ACall ACallV AYield DCall DCallV rvC rdC lp rg dr ex un rv rd'

theorem app_copy {H : Heap} {es b : Nat} {rows : List (List AV)} {y : AV} (s : Sl w0 H es y rows) (hr : rows ≠ []) (ho : ∀ c ∈ rows, c.all one = true) (hb : b ≤ 1000000) (hn2 : rows.length ≤ 1000000) :
    appA w0 H es b .nilS y = some (.sl (.own H.length 0) rows.length es false, H ++ [some (.row rows.flatten)]) := by
  rcases s with ⟨s1, s2⟩ | ⟨q, full, s1, s2, s3⟩
  · exact absurd s2 hr
  · obtain ⟨es', rfl, he⟩ := s1
    have hr2 := Sl.all hr s3
    have hne : rows.length ≠ 0 := fun e => hr (List.eq_nil_of_length_eq_zero e)
    have hsz : rows.length * (b + 1) ≤ 2 ^ 40 := Nat.le_trans (Nat.mul_le_mul hn2 (show b + 1 ≤ 1000001 by omega)) (by decide)
    have ho2 : rows.flatten.all one = true := by
      rw [List.all_eq_true]; intro x hx
      obtain ⟨c, hc, hx⟩ := List.mem_flatten.1 hx
      exact List.all_eq_true.1 (ho c hc) x hx
    simp only [appA, srcOf, he, if_true, hr2, Option.map_some, Option.bind_some]
    rw [if_neg hne, if_pos ⟨hsz, ho2⟩]
    simp [mkSl]
theorem app_ints {H : Heap} {b : Nat} {l : List Int} {y : AV} (s : SlI w0 H y l) (hr : l ≠ []) (hb : b ≤ 1000000) (hn2 : l.length ≤ 1000000) :
    appA w0 H 1 b .nilS y = some (.sl (.own H.length 0) l.length 1 false, H ++ [some (.row (ints l))]) := by
  have := app_copy (w0 := w0) (b := b) s (by simpa using hr) (by simp [one]) hb (by simpa using hn2)
  rw [List.length_map] at this
  rw [ints_flat]; exact this

def tableD (b : BayD) : List (List Int) := (List.range b.slots.length).map fun (s : Nat) => (List.range (b.days.length + 1)).map fun (k : Nat) => lastsD Span.high b s ((k : Int) - 1)
theorem table_len (b : BayD) : (tableD b).length = b.slots.length := by simp [tableD]
theorem table_row {b : BayD} {s : Nat} (hs : s < (tableD b).length) : (tableD b)[s] = (List.range (b.days.length + 1)).map fun (k : Nat) => lastsD Span.high b s ((k : Int) - 1) := by simp [tableD]

def lateR (n : Nat) (now : List Int) (d : DefD) : Bool := (d.nights.high == (n : Int)) && decide (now.getD d.slot.toNat 0 < d.nights.low)
def afterR (b : BayD) (p : List Int) (n : Nat) (c : List Int) : Int :=
  if ((decide (0 < c.length) && !(b.nights.getD n false)) || decide (b.most < c.length)) = true then -1
  else if (b.defs.any (lateR n (putD n p (c.map Int.toNat)))) = true then -1
  else if (decide ((n : Int) + 1 < b.days.length) && (List.range b.slots.length).any fun s => decide (lastsD Span.high b s ((putD n p (c.map Int.toNat)).getD s 0) < (n : Int) + 1)) = true then -1
  else encN (b.days.length + 1) (putD n p (c.map Int.toNat))

set_option maxHeartbeats 4000000 in
theorem after_c (b : BayD) (v : BayV) (tv pv cv : AV) (p : List Int) (n : Nat) (c : List Int) (hR : BayR w0 h b v) (hB : bayB b = true) (hT : LL w0 h tv (tableD b)) (hp : SlI w0 h pv p) (hpl : p.length = b.slots.length) (hn : n < b.days.length)
    (hpb : ∀ x ∈ p, -1 ≤ x ∧ x < (n : Int)) (hc : SlI w0 h cv c) (hcb : ∀ x ∈ c, 0 ≤ x ∧ x < b.slots.length) (hcl : c.length < 1000000) :
    DCall Try.prog w0 84 [.agg (bayC b v), tv, pv, .int .i64 n, cv] h (.int .i64 (afterR b p n c)) h := by
  refine DCall_quiet hmix mf84_ok mf84_b mf84_g (Nat.le_of_ble_eq_true rfl) (by simp [AV.bdd, AV.bdds]) fun hb ha => ex_in ?_
  have bs := bayB_spec hB
  have o1 := hR.kinds.one.1
  have o2 := hR.slots.one.1
  have o3 := hR.days.one.1
  have o4 := hR.nights.one.1
  have o5 := hR.defs.one.1
  have l2 := hR.days.use.1
  obtain ⟨l4, nq, nx, nrow, _⟩ := hR.nights.use
  simp only [List.length_map] at l2 l4 nx
  obtain ⟨lp', pq, pix, prow⟩ := hp.use
  obtain ⟨lc, cq, cix, crow⟩ := hc.use
  have hne : p ≠ [] := fun e => by rw [e] at hpl; simp at hpl; omega
  have n1 := nx n (by omega)
  obtain ⟨z, ez⟩ : ∃ z, z = b.nights[n]'(by omega) := ⟨_, rfl⟩
  have gz : b.nights.getD n false = z := by rw [getD_at (by omega), ez]
  have n2 : ∀ L, rd w0 (h ++ L) (nq.add n) = some (.bool z) := fun L => by
    have := rd_get (nrow n [.bool z] (by simp [show n < b.nights.length by omega, ez])) (o := 0) (x := .bool z) rfl
    rw [Nat.mul_one, show (nq.add n).add 0 = nq.add n by rw [Pl.add_add]; rfl] at this
    exact rd_app this
  have eA := app_ints (w0 := w0) (H := h ++ [some (Blk.row [v.kv, v.sv, v.dv, v.nv, AV.int IntKind.i64 b.most, v.fv])]) (b := 8) hp.app hne (by omega) (by omega)
  rw [List.append_assoc, List.length_append] at eA
  simp only [List.singleton_append, List.length_singleton] at eA
  simp only [go_sem, mf84, o1, o2, o3, o4, o5, lc, n1, n2, Nat.mul_one, eA, ↓reduceIte, Nat.reduceEqDiff, Nat.reduceAdd, Nat.reduceSub, Nat.reduceMul, Nat.reduceLT, Nat.reduceLeDiff, Int.reduceLE, Int.reduceLT, Int.reduceAdd, Int.reduceSub, Int.reduceMul, Int.reduceEq, Int.reduceBEq, Int.reduceBNe, Int.reduceNeg, Int.reduceToNat, reduceCtorEq]
  refine (fun K => ⟨fun e1 => ⟨fun e2 => ⟨fun e3 => ?_, fun e3 => K (by rw [gz, e2]; simp) (by simpa using e3)⟩, fun e2 => ?_⟩, fun e1 => ⟨fun e3 => ?_, fun e3 => K (by rw [decide_eq_false e1]; rfl) (by simpa using e3)⟩⟩) (fun (k1 : (decide ((0 : Int) < c.length) && !(b.nights.getD n false)) = false) (k2 : ¬ b.most < (c.length : Int)) => ?_)
  rotate_left
  · rw [afterR, if_pos (by simp [e3])]
  · have e1' : 0 < c.length := by omega
    rw [afterR, if_pos (by rw [gz, e2, decide_eq_true e1']; rfl)]
  · rw [afterR, if_pos (by simp [e3])]
  have hcond : ¬ ((decide (0 < c.length) && !(b.nights.getD n false)) || decide (b.most < c.length)) = true := by
    rw [decide_eq_false k2, Bool.or_false]
    intro h
    have : decide ((0 : Int) < c.length) = decide (0 < c.length) := by congr 1; simp
    rw [this, h] at k1; cases k1
  rw [afterR, if_neg hcond]
  clear hcond k1 k2 gz ez n1 n2 nrow nx l4
  obtain ⟨R, eR⟩ : ∃ R : List Int → AV, ∀ now, R now = .int .i64 (if (b.defs.any (lateR n now)) = true then -1 else if (decide ((n : Int) + 1 < b.days.length) && (List.range b.slots.length).any fun s => decide (lastsD Span.high b s (now.getD s 0) < (n : Int) + 1)) = true then -1 else encN (b.days.length + 1) now) := ⟨_, fun _ => rfl⟩
  rw [← eR (putD n p (c.map Int.toNat))]
  refine lp_for (S := Unit) (fun j _ => [(1, tv), (3, .int .i64 n), (4, cv), (5, .ptr (.own h.length 0)), (11, .sl (.own (h.length + 1) 0) p.length 1 false), (12, .int .i64 j)]) (fun j _ => h ++ [some (.row (bayC b v)), some (.row (ints (putD n p ((c.take j).map Int.toNat))))]) (fun _ _ => True) c.length () trivial (by simp) (by simp [putD, bayC]) (fun j _ hj _ ih => ?_) (fun _ _ => ?_)
  · refine lp_step hmix L84_0_g [1, 3, 4, 5, 11, 12] L84_0.eq_1 ?_
    have e1 : (j : Int) < c.length := by omega
    have i1 := cix j hj
    have r1 := crow j hj
    have hx := hcb c[j] (List.getElem_mem hj)
    obtain ⟨x, ex⟩ : ∃ x : Nat, c[j] = x := ⟨c[j].toNat, by omega⟩
    rw [ex] at r1 hx
    have hlen : (ints (putD n p ((c.take j).map Int.toNat))).length = p.length := by rw [ints_len, putD_len]
    have ih := ih () trivial
    rw [List.take_succ_eq_append_getElem hj, List.map_append, List.map_cons, List.map_nil, putD_snoc, ex, Int.toNat_natCast] at ih
    simp only [go_sem, lc, e1, i1, r1, hlen, Nat.mul_one, ↓reduceIte, Nat.reduceEqDiff, Nat.reduceAdd, Nat.reduceSub, Nat.reduceMul, Nat.reduceLT, Nat.reduceLeDiff, Int.reduceLE, Int.reduceLT, Int.reduceAdd, Int.reduceSub, Int.reduceMul, Int.reduceEq, Int.reduceBEq, Int.reduceBNe, Int.reduceNeg, Int.reduceToNat, reduceCtorEq]
    refine ⟨by omega, by omega, (by unfold I64; omega), ?_⟩
    rw [splice_r (by rw [ints_len, putD_len]; omega), ints_set]
    simpa [bayC] using ih
  · refine lp_step hmix L84_0_g [1, 3, 4, 5, 11, 12] L84_0.eq_1 ?_
    have e1 : ¬ (c.length : Int) < c.length := by omega
    rw [List.take_length]
    simp only [go_sem, lc, e1, ↓reduceIte, Nat.reduceEqDiff, Nat.reduceAdd, Nat.reduceSub, Nat.reduceMul, Nat.reduceLT, Nat.reduceLeDiff, Int.reduceLE, Int.reduceLT, Int.reduceAdd, Int.reduceSub, Int.reduceMul, Int.reduceEq, Int.reduceBEq, Int.reduceBNe, Int.reduceNeg, Int.reduceToNat, reduceCtorEq]
    obtain ⟨now, enow⟩ : ∃ now, now = putD n p (c.map Int.toNat) := ⟨_, rfl⟩
    have hnl : now.length = b.slots.length := by rw [enow, putD_len, hpl]
    have hnb : ∀ x ∈ now, -1 ≤ x ∧ x < ((n + 1 : Nat) : Int) := by rw [enow]; exact putD_bd hpb
    rw [← enow, show p.length = now.length by omega]
    have hlen : (ints now).length = now.length := ints_len _
    clear enow hp pix prow lp' hpb hpl hne eA crow cix lc
    obtain ⟨l5, fp, fx, fr, _⟩ := hR.defs.use
    simp only [List.length_map] at l5 fx
    refine lp_all (fun i => [(1, tv), (3, .int .i64 n), (5, .ptr (.own h.length 0)), (11, .sl (.own (h.length + 1) 0) now.length 1 false), (13, .int .i64 i)]) (fun i => ∀ hi : i < b.defs.length, lateR n now b.defs[i] = false) b.defs.length rfl (fun i hi hall ih => ?_) (fun hall => ?_)
    · refine lp_step hmix L84_1_g [1, 3, 5, 11, 13] L84_1.eq_1 ?_
      have m1 : (i : Int) < b.defs.length := by omega
      have f1 := fx i hi
      obtain ⟨d, ed⟩ : ∃ d, d = b.defs[i] := ⟨_, rfl⟩
      have f2 : ∀ L, rdn w0 (h ++ L) (fp.add (i * 3)) 3 = some d.c := fun L => rdn_app (fr i _ (by simp [hi, ed]))
      have qd := bs.2.2.2.2.2.2.2.2.2.2.2.2.2 d (by rw [ed]; exact List.getElem_mem hi)
      simp only [defB, spanB, inB, Bool.and_eq_true, decide_eq_true_eq] at qd
      obtain ⟨sl, hsl⟩ : ∃ sl : Nat, d.slot = sl := ⟨d.slot.toNat, by omega⟩
      have hsl2 : sl < now.length := by omega
      have hR1 : lateR n now d = true → R now = .int .i64 (-1) := fun e => by
        rw [eR, if_pos]; rw [List.any_eq_true]; exact ⟨d, by rw [ed]; exact List.getElem_mem hi, e⟩
      have ih : lateR n now d = false → _ := fun e => ih fun _ => ed ▸ e
      have hdr := fun e => lp_drop (P := Try.prog) (w0 := w0) (r := none) (nt := 106) (Q := quietK w0 [RV.t 10] h (R now)) (a := L84_1) (l := [some (.row (bayC b v)), some (.row (ints now)), some (.row d.c)]) 2 hb (by simp [HBs_some, HBs_none, HBs_nil, FB_cons, FB_nil, row_bdd, AV.bdds, AV.bdd, Pl.bdd, loop_bddT, hR.kinds.bdd, hR.slots.bdd, hR.days.bdd, hR.nights.bdd, hR.defs.bdd, bayC]) (by simp [HBs_some, HBs_none, HBs_nil, FB_cons, FB_nil, row_bdd, AV.bdds, AV.bdd, Pl.bdd, loop_bddT, hT.bdd]) (ih e)
      have gN : (ints now)[sl]? = some (.int .i64 (now.getD sl 0)) := by rw [ints_get, List.getElem?_eq_getElem hsl2, getD_at hsl2]; rfl
      obtain ⟨w, ew⟩ : ∃ w, w = now.getD sl 0 := ⟨_, rfl⟩
      rw [← ew] at gN
      have hlt : lateR n now d = ((d.nights.high == (n : Int)) && decide (w < d.nights.low)) := by rw [lateR, hsl, Int.toNat_natCast, ew]
      simp only [go_sem, m1, l5, f1, f2, hsl, Nat.mul_one, gN, ↓reduceIte, Nat.reduceEqDiff, Nat.reduceAdd, Nat.reduceSub, Nat.reduceMul, Nat.reduceLT, Nat.reduceLeDiff, Int.reduceLE, Int.reduceLT, Int.reduceAdd, Int.reduceSub, Int.reduceMul, Int.reduceEq, Int.reduceBEq, Int.reduceBNe, Int.reduceNeg, Int.reduceToNat, reduceCtorEq]
      refine ⟨fun e1 => ⟨by omega, fun e2 => ?_, fun e2 => ?_⟩, fun e1 => ?_⟩
      · rw [hR1 (by rw [hlt, decide_eq_true e2]; simp [e1])]
      · have e3 : lateR n now d = false := by rw [hlt, decide_eq_false (by omega)]; simp
        exact ⟨(by unfold I64; omega), by simpa [bayC, DefD.c, hsl] using hdr e3⟩
      · have e3 : lateR n now d = false := by rw [hlt]; simp [e1]
        exact ⟨(by unfold I64; omega), by simpa [bayC, DefD.c, hsl] using hdr e3⟩
    · refine lp_step hmix L84_1_g [1, 3, 5, 11, 13] L84_1.eq_1 ?_
      have m1 : ¬ (b.defs.length : Int) < b.defs.length := by omega
      have hno : b.defs.any (lateR n now) = false := List.any_eq_false.2 fun d hd => by
        obtain ⟨i, hi, rfl⟩ := List.getElem_of_mem hd
        simp [hall i hi hi]
      have hR2 : R now = .int .i64 (if (decide ((n : Int) + 1 < b.days.length) && (List.range b.slots.length).any fun s => decide (lastsD Span.high b s (now.getD s 0) < (n : Int) + 1)) = true then -1 else encN (b.days.length + 1) now) := by rw [eR, hno]; rfl
      rw [hR2]
      simp only [go_sem, m1, l5, l2, ↓reduceIte, Nat.reduceEqDiff, Nat.reduceAdd, Nat.reduceSub, Nat.reduceMul, Nat.reduceLT, Nat.reduceLeDiff, Int.reduceLE, Int.reduceLT, Int.reduceAdd, Int.reduceSub, Int.reduceMul, Int.reduceEq, Int.reduceBEq, Int.reduceBNe, Int.reduceNeg, Int.reduceToNat, reduceCtorEq]
      have hst : DCall Try.prog w0 117 [.agg (bayC b v), .sl (.own (h.length + 1) 0) now.length 1 false] (h ++ [some (.row (bayC b v)), some (.row (ints now))]) (.int .i64 (encN (b.days.length + 1) now)) (h ++ [some (.row (bayC b v)), some (.row (ints now))]) :=
        state_c b v now _ hR.app (by
          have := Sl_lit (w0 := w0) (h := h) (now.map fun z => [AV.int .i64 z]) (es := 1) false (L := [some (.row (bayC b v)), some (.row (ints now))]) 1 (by rw [ints_flat]; rfl) (by simp)
          rw [List.length_map] at this
          exact this) (by omega) (by omega) (fun x hx => by have := hnb x hx; omega)
      refine ⟨(by unfold I64; omega), fun e1 => ?_, fun e1 => ?_⟩
      · rw [decide_eq_true e1, Bool.true_and]
        refine lp_all (fun s => [(1, tv), (3, .int .i64 n), (5, .ptr (.own h.length 0)), (11, .sl (.own (h.length + 1) 0) now.length 1 false), (15, .int .i64 s)]) (fun s => ∀ hs : s < now.length, ¬ lastsD Span.high b s now[s] < (n : Int) + 1) now.length rfl (fun s hs hall2 ih => ?_) (fun hall2 => ?_)
        · refine lp_step hmix L84_2_g [1, 3, 5, 11, 15] L84_2.eq_1 ?_
          have m2 : (s : Int) < now.length := by omega
          have gN : (ints now)[s]? = some (.int .i64 now[s]) := by rw [ints_get, List.getElem?_eq_getElem hs]; rfl
          obtain ⟨w, ew⟩ : ∃ w, w = now[s] := ⟨_, rfl⟩
          rw [← ew] at gN
          have hw := hnb w (by rw [ew]; exact List.getElem_mem hs)
          obtain ⟨k, ek⟩ : ∃ k : Nat, w + 1 = k := ⟨(w + 1).toNat, by omega⟩
          have d2 : asNat (.int .i64 (k : Int)) = some k := asNat_n
          have hsT : s < (tableD b).length := by rw [table_len]; omega
          have hkT : k < (tableD b)[s].length := by rw [table_row hsT]; simp; omega
          obtain ⟨pp, qq, xx, t1, t2, t3, t4⟩ := hT.at_ hsT hkT
          have hval : (tableD b)[s][k] = lastsD Span.high b s w := by
            simp only [table_row hsT, List.getElem_map, List.getElem_range]; rw [show (k : Int) - 1 = w by omega]
          rw [hval] at t4
          simp only [go_sem, m2, gN, Nat.mul_one, ek, d2, t1, t2, t3, t4, ↓reduceIte, Nat.reduceEqDiff, Nat.reduceAdd, Nat.reduceSub, Nat.reduceMul, Nat.reduceLT, Nat.reduceLeDiff, Int.reduceLE, Int.reduceLT, Int.reduceAdd, Int.reduceSub, Int.reduceMul, Int.reduceEq, Int.reduceBEq, Int.reduceBNe, Int.reduceNeg, Int.reduceToNat, reduceCtorEq]
          refine ⟨by omega, (by unfold I64; omega), (by unfold I64; omega), fun e2 => ?_, fun e2 => ⟨(by unfold I64; omega), ?_⟩⟩
          · rw [if_pos]
            rw [List.any_eq_true]
            exact ⟨s, List.mem_range.2 (by omega), by rw [getD_at hs, ← ew]; simpa using e2⟩
          · simpa [bayC] using ih fun _ => by rw [← ew]; exact e2
        · refine lp_step hmix L84_2_g [1, 3, 5, 11, 15] L84_2.eq_1 ?_
          have m2 : ¬ (now.length : Int) < now.length := by omega
          have hno2 : ((List.range b.slots.length).any fun s => decide (lastsD Span.high b s (now.getD s 0) < (n : Int) + 1)) = false := List.any_eq_false.2 fun s hs => by
            rw [List.mem_range] at hs
            have := hall2 s (by omega) (by omega)
            rw [getD_at (by omega)]; simpa using this
          rw [hno2]
          simp only [go_sem, m2, ↓reduceIte, Nat.reduceEqDiff, Nat.reduceAdd, Nat.reduceSub, Nat.reduceMul, Nat.reduceLT, Nat.reduceLeDiff, Int.reduceLE, Int.reduceLT, Int.reduceAdd, Int.reduceSub, Int.reduceMul, Int.reduceEq, Int.reduceBEq, Int.reduceBNe, Int.reduceNeg, Int.reduceToNat, reduceCtorEq]
          refine rvC_use hst.v ?_
          simp only [go_sem, ↓reduceIte, Nat.reduceEqDiff, Nat.reduceAdd, Nat.reduceSub, Nat.reduceMul, Nat.reduceLT, Nat.reduceLeDiff, Int.reduceLE, Int.reduceLT, Int.reduceAdd, Int.reduceSub, Int.reduceMul, Int.reduceEq, Int.reduceBEq, Int.reduceBNe, Int.reduceNeg, Int.reduceToNat, reduceCtorEq]
      · rw [decide_eq_false e1, Bool.false_and]
        refine rvC_use hst.v ?_
        simp only [go_sem, ↓reduceIte, Nat.reduceEqDiff, Nat.reduceAdd, Nat.reduceSub, Nat.reduceMul, Nat.reduceLT, Nat.reduceLeDiff, Int.reduceLE, Int.reduceLT, Int.reduceAdd, Int.reduceSub, Int.reduceMul, Int.reduceEq, Int.reduceBEq, Int.reduceBNe, Int.reduceNeg, Int.reduceToNat, reduceCtorEq]
end Go.Proofs.Ab

namespace Go.Proofs.Ab
open Go Go.Proofs
variable {w0 : World} {h : Heap}
attribute [local irreducible] ACall ACallV AYield DCall DCallV rvC rdC lp rg dr ex un rv rd'

theorem HSub.set {G H : Heap} (s : HSub G H) (i : Nat) : HSub (G.set i none) (H.set i none) := by
  refine ⟨by simpa using s.1, fun j c e => ?_⟩
  by_cases e2 : i = j
  · subst e2
    have hl := get_lt e
    rw [List.getElem?_set_self (by simpa using hl)] at e; cases e
  · rw [List.getElem?_set_ne e2] at e ⊢; exact s.2 j c e
theorem Gro.msk {H : Heap} {es n io : Nat} {ov : AV} {vs : List AV} (g : Gro h H es n ov vs) (hio : io < h.length) : Gro (h.set io none) (H.set io none) es n ov vs := by
  refine ⟨g.sub.set io, ?_⟩
  rcases g.own with h1 | ⟨jo, h1, h2, h3, h4, h5⟩
  · exact .inl h1
  · exact .inr ⟨jo, by simpa using h1, h2, h3, by rw [List.getElem?_set_ne (by omega)]; exact h4, h5⟩

def mk (n io : Nat) (H : Heap) : Heap := if n = 0 then H else H.set io none
def Gr2 (H : Heap) (es n io : Nat) (ov : AV) (vs : List AV) : Prop := n = 0 ∧ ov = .nilS ∧ vs = [] ∨ n ≠ 0 ∧ ov = .sl (.own io 0) n es false ∧ H[io]? = some (some (.row vs)) ∧ vs.length = n * es
theorem mk_sub {n io : Nat} {H : Heap} : HSub (mk n io H) H := by unfold mk; split; exact HSub.refl; exact HSub.msk
theorem mk_mono {n io : Nat} {G H : Heap} (s : HSub G H) : HSub (mk n io G) (mk n io H) := by unfold mk; split; exact s; exact s.set io
theorem Gr2.sub {G H : Heap} {es n io : Nat} {ov : AV} {vs : List AV} (g : Gr2 G es n io ov vs) (s : HSub G H) : Gr2 H es n io ov vs := by
  rcases g with h1 | ⟨h1, h2, h3, h4⟩
  · exact .inl h1
  · exact .inr ⟨h1, h2, s.2 _ _ h3, h4⟩
theorem Gr2.more {H : Heap} {es b n io k : Nat} {ov : AV} {vs x : List AV} {f : Bool} (g : Gr2 H es n io ov vs) (hk : H[k]? = some (some (.row x))) (hx : x.length = es) (ho : x.all one = true) (hb : b ≤ 1000000) (hn : n ≤ 1000000) :
    ∃ G, appA w0 H es b ov (.sl (.own k 0) 1 es f) = some (.sl (.own H.length 0) (n + 1) es false, G) ∧ Gr2 G es (n + 1) H.length (.sl (.own H.length 0) (n + 1) es false) (vs ++ x) ∧ HSub (mk n io H) (mk (n + 1) H.length G) ∧ G.length = H.length + 1 := by
  have hlen : vs.length = n * es := by
    rcases g with ⟨h1, _, h3⟩ | ⟨_, _, _, h5⟩
    · subst h1; subst h3; simp
    · exact h5
  obtain ⟨G, e1, e2, e3, e4⟩ := app_grow (w0 := w0) (b := b) (f := f) g hk hx ho hb hn
  refine ⟨G, e1, .inr ⟨by omega, rfl, e3, by rw [List.length_append, hlen, hx, Nat.succ_mul]⟩, ⟨?_, fun i c e => ?_⟩, e2⟩
  · simp only [mk]; split <;> (rw [if_neg (by omega)]; simp; omega)
  · have hi := get_lt e
    have hil : i < H.length := by simp only [mk] at hi; split at hi <;> simpa using hi
    simp only [mk] at e ⊢
    rw [if_neg (by omega), List.getElem?_set_ne (by omega)]
    split at e
    · exact e4 i c (fun h => absurd (by assumption) h) e
    · by_cases h2 : io = i
      · subst h2
        rw [List.getElem?_set_self hil] at e; cases e
      · rw [List.getElem?_set_ne h2] at e
        exact e4 i c (fun _ => fun h => h2 h.symm) e
theorem LL_of {H K : Heap} {n io : Nat} {ov : AV} {vs : List AV} {t : List (List Int)} (g : Gr2 H 1 n io ov vs) (s : HSub K H) (hl : vs.length = t.length) (hr : ∀ (j : Nat) x l, vs[j]? = some x → t[j]? = some l → SlI w0 K x l) : LL w0 H ov t := by
  refine ⟨vs, hl, ?_, fun j x l e1 e2 => (hr j x l e1 e2).sub s⟩
  rcases g with ⟨h1, h2, h3⟩ | ⟨h1, h2, h3, h4⟩
  · subst h3; exact .inl ⟨h2, rfl⟩
  · have hf : vs = (vs.map fun x => [x]).flatten := by
      clear hl hr h3 h4
      induction vs with
      | nil => rfl
      | cons a l ih => simp at ih ⊢; exact ih
    have : Gro [] H 1 n ov (vs.map fun x => [x]).flatten := ⟨⟨by simp, fun i b e => by simp at e⟩, .inr ⟨io, by simp, h1, h2, by rw [← hf]; exact h3, by rw [← hf]; exact h4⟩⟩
    exact this.sl (by simp) (by simp; omega) (by omega)

set_option maxHeartbeats 4000000 in
theorem table_c (b : BayD) (v : BayV) (hR : BayR w0 h b v) (hB : bayB b = true) : ACall Try.prog w0 80 [.agg (bayC b v)] h fun y h' => HSub h h' ∧ LL w0 h' y (tableD b) := by
  refine ACall_sx hmix mf80_ok mf80_b mf80_g (Nat.le_of_ble_eq_true rfl) fun hb ha => ex_in ?_
  have bs := bayB_spec hB
  have o1 := hR.kinds.one.1
  have o2 := hR.slots.one.1
  have o3 := hR.days.one.1
  have o4 := hR.nights.one.1
  have o5 := hR.defs.one.1
  have l1 := hR.slots.use.1
  have l2 := hR.days.use.1
  simp only [List.length_map] at l1 l2
  simp only [go_sem, mf80, o1, o2, o3, o4, o5, ↓reduceIte, Nat.reduceEqDiff, Nat.reduceAdd, Nat.reduceSub, Nat.reduceMul, Nat.reduceLT, Nat.reduceLeDiff, Int.reduceLE, Int.reduceLT, Int.reduceAdd, Int.reduceSub, Int.reduceMul, Int.reduceEq, Int.reduceBEq, Int.reduceBNe, Int.reduceNeg, Int.reduceToNat, reduceCtorEq]
  refine lp_ind (S := Nat × Heap × AV × Nat × List AV) (F := fun s => [(1, .ptr (.own h.length 0)), (3, s.2.2.1), (4, .int .i64 s.1)]) (H := fun s => s.2.1) (meas := fun s => b.slots.length - s.1)
    (Inv := fun s => s.1 ≤ b.slots.length ∧ HSub (h ++ [some (.row (bayC b v))]) (mk s.1 s.2.2.2.1 s.2.1) ∧ Gr2 s.2.1 1 s.1 s.2.2.2.1 s.2.2.1 s.2.2.2.2 ∧ s.2.2.2.2.length = s.1 ∧ ∀ (j : Nat) x l, s.2.2.2.2[j]? = some x → (tableD b)[j]? = some l → SlI w0 (mk s.1 s.2.2.2.1 s.2.1) x l)
    (0, _, .nilS, 0, []) ⟨Nat.zero_le _, by simp only [mk, if_true]; exact HSub.refl, .inl ⟨rfl, rfl, rfl⟩, rfl, fun j x l e => by simp at e⟩ (by simp [bayC]) rfl ?_
  rintro ⟨s, H, ov, io, vs⟩ ⟨hs, hsub, g, hvl, hvs⟩ ih
  simp only at hs hsub g hvl hvs ih
  have hsH : HSub (h ++ [some (.row (bayC b v))]) H := hsub.trans mk_sub
  have hbx : H[h.length]? = some (some (.row (bayC b v))) := hsH.2 _ _ (by simp)
  refine lp_step hmix L80_1_g [1, 3, 4] L80_1.eq_1 ?_
  by_cases hsn : s < b.slots.length
  · have e1 : (s : Int) < b.slots.length := by omega
    simp only [go_sem, hbx, l1, e1, ↓reduceIte, Nat.reduceEqDiff, Nat.reduceAdd, Nat.reduceSub, Nat.reduceMul, Nat.reduceLT, Nat.reduceLeDiff, Int.reduceLE, Int.reduceLT, Int.reduceAdd, Int.reduceSub, Int.reduceMul, Int.reduceEq, Int.reduceBEq, Int.reduceBNe, Int.reduceNeg, Int.reduceToNat, reduceCtorEq]
    obtain ⟨row, erow⟩ : ∃ row, row = (List.range (b.days.length + 1)).map fun (k : Nat) => lastsD Span.high b s ((k : Int) - 1) := ⟨_, rfl⟩
    refine lp_ind (S := Nat × Heap × AV) (F := fun q => [(1, .ptr (.own h.length 0)), (3, ov), (4, .int .i64 s), (5, q.2.2), (6, .int .i64 ((q.1 : Int) - 1))]) (H := fun q => q.2.1) (meas := fun q => b.days.length + 1 - q.1)
      (Inv := fun q => q.1 ≤ b.days.length + 1 ∧ Gro H q.2.1 1 q.1 q.2.2 (ints (row.take q.1)))
      (0, H, .nilS) ⟨Nat.zero_le _, by simpa [ints] using Gro.nil (es := 1) (HSub.refl (G := H))⟩ rfl rfl ?_
    rintro ⟨k, H2, ov2⟩ ⟨hk, g2⟩ ih2
    simp only at hk g2 ih2
    have hbx2 : ∀ L, (H2 ++ L)[h.length]? = some (some (.row (bayC b v))) := fun L => getElem?_app_left (g2.sub.2 _ _ hbx)
    have hbx2' := g2.sub.2 _ _ hbx
    have hR2 : BayR w0 H2 b v := hR.sub (HSub.trans HSub.refl.app (hsH.trans g2.sub))
    refine lp_step hmix L80_0_g [1, 3, 4, 5, 6] L80_0.eq_1 ?_
    by_cases hkn : k < b.days.length + 1
    · have m1 : (k : Int) - 1 < b.days.length := by omega
      simp only [go_sem, hbx2, hbx2', l2, m1, ↓reduceIte, Nat.reduceEqDiff, Nat.reduceAdd, Nat.reduceSub, Nat.reduceMul, Nat.reduceLT, Nat.reduceLeDiff, Int.reduceLE, Int.reduceLT, Int.reduceAdd, Int.reduceSub, Int.reduceMul, Int.reduceEq, Int.reduceBEq, Int.reduceBNe, Int.reduceNeg, Int.reduceToNat, reduceCtorEq]
      refine rvC_use (rlasts_c b v s ((k : Int) - 1) hR2 hB hsn (by omega) (by omega)).v ?_
      obtain ⟨z, ez⟩ : ∃ z, z = lastsD Span.high b s ((k : Int) - 1) := ⟨_, rfl⟩
      rw [← ez]
      obtain ⟨G, eG, gG⟩ := (g2.app (L := [some (.row [.int .i64 z])])).more (w0 := w0) (b := 8) (k := H2.length) (x := [.int .i64 z]) (f := true) (by simp) rfl rfl (by omega) (by omega)
      simp only [go_sem, eG, ↓reduceIte, Nat.reduceEqDiff, Nat.reduceAdd, Nat.reduceSub, Nat.reduceMul, Nat.reduceLT, Nat.reduceLeDiff, Int.reduceLE, Int.reduceLT, Int.reduceAdd, Int.reduceSub, Int.reduceMul, Int.reduceEq, Int.reduceBEq, Int.reduceBNe, Int.reduceNeg, Int.reduceToNat, reduceCtorEq]
      refine ⟨(by unfold I64; omega), ?_⟩
      have htk : row.take (k + 1) = row.take k ++ [z] := by
        have hkl : k < row.length := by rw [erow]; simpa using hkn
        rw [List.take_succ_eq_append_getElem hkl]; congr 2; simp [erow, ez]
      have := ih2 (k + 1, G, _) ⟨by simp only; omega, by simp only; rw [htk, ← ints_app]; exact gG⟩ (by simp only; omega)
      rw [show ((k + 1 : Nat) : Int) - 1 = (k : Int) - 1 + 1 by omega] at this
      simpa using this
    · have hkE : k = b.days.length + 1 := by omega
      have m1 : ¬ (k : Int) - 1 < b.days.length := by omega
      have hrl : row.length = k := by rw [erow]; simp [hkE]
      rw [List.take_of_length_le (by omega)] at g2
      have hrow : SlI w0 H2 ov2 row := g2.sli hrl.symm
      have ho := hrow.one.2
      have ho1 := hrow.one.1
      have hio : s ≠ 0 → io < H.length := fun h0 => by
        rcases g with h1 | ⟨_, _, h3, _⟩
        · exact absurd h1.1 h0
        · exact get_lt h3
      have hrow2 : SlI w0 (mk s io H2) ov2 row := by
        unfold mk; split
        · exact hrow
        · rename_i h0; exact (g2.msk (hio h0)).sli hrl.symm
      have hH3 : HSub H (H2 ++ [some (Blk.row [ov2])]) := g2.sub.app
      obtain ⟨G, eG, gG, sG, _⟩ := (g.sub hH3).more (w0 := w0) (b := 24) (k := H2.length) (x := [ov2]) (f := true) (by simp) rfl (by simp [ho1]) (by omega) (by omega)
      have hmk : HSub (mk s io H2) (mk s io (H2 ++ [some (Blk.row [ov2])])) := mk_mono HSub.refl.app
      simp only [go_sem, hbx2, hbx2', l2, m1, ho, eG, ↓reduceIte, Nat.reduceEqDiff, Nat.reduceAdd, Nat.reduceSub, Nat.reduceMul, Nat.reduceLT, Nat.reduceLeDiff, Int.reduceLE, Int.reduceLT, Int.reduceAdd, Int.reduceSub, Int.reduceMul, Int.reduceEq, Int.reduceBEq, Int.reduceBNe, Int.reduceNeg, Int.reduceToNat, reduceCtorEq]
      refine ⟨(by unfold I64; omega), ?_⟩
      have := ih (s + 1, G, _, (H2 ++ [some (Blk.row [ov2])]).length, vs ++ [ov2]) ⟨by simp only; omega, (hsub.trans (mk_mono hH3)).trans sG, gG, by simp [hvl], fun j x l e e' => ?_⟩ (by simp only; omega)
      · simpa using this
      · simp only at e e' ⊢
        rcases Nat.lt_or_ge j s with h1 | h1
        · rw [List.getElem?_append_left (by omega)] at e
          exact ((hvs j x l e e').sub (mk_mono hH3)).sub sG
        · rw [List.getElem?_append_right (by omega)] at e
          have : j - vs.length = 0 := by
            rcases Nat.eq_zero_or_pos (j - vs.length) with h2 | h2
            · exact h2
            · rw [List.getElem?_eq_none (by simp; omega)] at e; cases e
          rw [this] at e
          have hj : j = s := by omega
          subst hj
          simp at e; subst e
          have hjT : j < (tableD b).length := by rw [table_len]; exact hsn
          rw [List.getElem?_eq_getElem hjT, table_row hjT, ← erow] at e'
          cases e'
          exact (hrow2.sub hmk).sub sG
  · have : s = b.slots.length := by omega
    subst this
    have e1 : ¬ (b.slots.length : Int) < b.slots.length := by omega
    simp only [go_sem, hbx, l1, e1, ↓reduceIte, Nat.reduceEqDiff, Nat.reduceAdd, Nat.reduceSub, Nat.reduceMul, Nat.reduceLT, Nat.reduceLeDiff, Int.reduceLE, Int.reduceLT, Int.reduceAdd, Int.reduceSub, Int.reduceMul, Int.reduceEq, Int.reduceBEq, Int.reduceBNe, Int.reduceNeg, Int.reduceToNat, reduceCtorEq]
    exact ⟨HSub.trans HSub.refl.app hsH, LL_of g mk_sub (by rw [hvl, table_len]) hvs⟩
end Go.Proofs.Ab

namespace Go.Proofs.Ab
open Go Go.Proofs
variable {w0 : World} {h : Heap}
attribute [local irreducible] ACall ACallV AYield DCall DCallV rvC rdC lp rg dr ex un rv rd'

theorem Sl_part {H : Heap} {io o len : Nat} {vs : List AV} (hb : H[io]? = some (some (.row vs))) (hl : o + len ≤ vs.length) : Sl w0 H 1 (.sl (.own io o) len 1 false) (((vs.drop o).take len).map fun x => [x]) := by
  have hlt := get_lt hb
  have hlen : ((vs.drop o).take len).length = len := by rw [List.length_take, List.length_drop]; omega
  refine .inr ⟨.own io o, false, ⟨1, by rw [List.length_map, hlen], esOk_s⟩, by simp [Pl.bdd]; exact hlt, fun j c hc => ?_⟩
  have hj := get_some_lt hc
  rw [List.length_map, hlen] at hj
  simp only [Pl.add, rdn, hb, Nat.mul_one]
  rw [if_pos (by omega)]
  rw [List.getElem?_map, List.getElem?_take_of_lt hj, List.getElem?_drop, List.getElem?_eq_getElem (by omega)] at hc
  simp at hc; subst hc
  rw [List.drop_eq_getElem_cons (show o + j < vs.length by omega)]; rfl
theorem app_rows {H : Heap} {es b n io : Nat} {vs : List AV} {rows : List (List AV)} {y : AV} (s : Sl w0 H es y rows) (hr : rows ≠ []) (ho : ∀ c ∈ rows, c.all one = true) (hio : H[io]? = some (some (.row vs))) (hv : vs.length = n * es) (hb : b ≤ 1000000) (hn2 : n + rows.length ≤ 1000000) :
    appA w0 H es b (.sl (.own io 0) n es false) y = some (.sl (.own H.length 0) (n + rows.length) es false, H.set io none ++ [some (.row (vs ++ rows.flatten))]) := by
  have r2 : rdn w0 H (.own io 0) (n * es) = some vs := by
    simp only [rdn, hio]; simp [hv]; rw [← hv]; simp
  rcases s with ⟨s1, s2⟩ | ⟨q, full, s1, s2, s3⟩
  · exact absurd s2 hr
  · obtain ⟨es', rfl, he⟩ := s1
    have hr2 := Sl.all hr s3
    have hne : rows.length ≠ 0 := fun e => hr (List.eq_nil_of_length_eq_zero e)
    have hsz : (n + rows.length) * (b + 1) ≤ 2 ^ 40 := Nat.le_trans (Nat.mul_le_mul hn2 (show b + 1 ≤ 1000001 by omega)) (by decide)
    have ho2 : rows.flatten.all one = true := by
      rw [List.all_eq_true]; intro x hx
      obtain ⟨c, hc, hx⟩ := List.mem_flatten.1 hx
      exact List.all_eq_true.1 (ho c hc) x hx
    simp only [appA, srcOf, he, esOk_s, if_true, hr2, Option.map_some, Option.bind_some]
    rw [if_neg hne, if_pos ⟨trivial, hsz, ho2⟩]
    simp only [Bool.false_eq_true, if_false, r2, Option.bind_some]

def posC : List (List Int) → List Int → Nat
  | [], _ => 0
  | a :: l, x => if lessI a x = true then posC l x + 1 else 0
theorem posC_le : ∀ {out : List (List Int)} {x : List Int}, posC out x ≤ out.length
  | [], _ => Nat.le_refl _
  | a :: l, x => by
    have := posC_le (out := l) (x := x)
    simp only [posC, List.length_cons]; split <;> omega
def insC (out : List (List Int)) (x : List Int) : List (List Int) := out.take (posC out x) ++ x :: out.drop (posC out x)
def choicesD (N k : Nat) : List (List Int) := (List.range k).foldl (fun out bits => insC out (bitsL bits N)) []
theorem choices_succ {N k : Nat} : choicesD N (k + 1) = insC (choicesD N k) (bitsL k N) := by simp [choicesD, List.range_succ]
theorem insC_len {out : List (List Int)} {x : List Int} : (insC out x).length = out.length + 1 := by
  have := posC_le (out := out) (x := x)
  simp only [insC, List.length_append, List.length_take, List.length_cons, List.length_drop]; omega
theorem choices_len {N : Nat} : ∀ k, (choicesD N k).length = k
  | 0 => rfl
  | k + 1 => by rw [choices_succ, insC_len, choices_len k]
theorem posC_at : ∀ {out : List (List Int)} {x : List Int} {p : Nat}, p ≤ out.length → (∀ i, i < p → ∀ hi : i < out.length, lessI out[i] x = true) → (∀ hp : p < out.length, lessI out[p] x = false) → posC out x = p
  | [], x, p, hp, _, _ => by simp at hp; simp [posC, hp]
  | a :: l, x, 0, _, _, h2 => by
    have : lessI a x = false := h2 (by simp)
    simp [posC, this]
  | a :: l, x, p + 1, hp, h1, h2 => by
    have h0 : lessI a x = true := h1 0 (by omega) (by simp)
    have := posC_at (out := l) (x := x) (p := p) (by simpa using hp) (fun i hi hi2 => h1 (i + 1) (by omega) (by simp; omega)) (fun hp => h2 (by simp; omega))
    simp only [posC]
    rw [if_pos h0, this]
end Go.Proofs.Ab

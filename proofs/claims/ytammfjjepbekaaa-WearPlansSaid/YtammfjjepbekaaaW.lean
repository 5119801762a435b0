/- The own layer under the proofs of this seat, part W: what calls of the program come to on an abstract heap. No condition. -/
import Derived.Test.YtammfjjepbekaaaV
import Derived.Test.YtammfjjepbekaaaG
import Derived.KernelRfl
set_option linter.unusedSimpArgs false
set_option linter.unusedVariables false
namespace Go.Proofs.Ab
open Go Go.Proofs
variable {w0 : World} {h : Heap}
attribute [local irreducible] ACall ACallV AYield DCall DCallV rvC rdC lp rg dr ex un rv rd'

def six : Bool × List Bool := (true, [true, true, true, true, true, true])
theorem ceqs_ints : ∀ (a b : List Int), a.length = b.length → ceqs (List.replicate a.length true) (ints a) (ints b) = some (a == b)
  | [], [], _ => rfl
  | x :: xs, y :: ys, e => by
    have ih := ceqs_ints xs ys (by simpa using e)
    simp only [ints, List.map_cons, List.length_cons, List.replicate_succ, ceqs, ceq] at ih ⊢
    rw [ih]
    by_cases h : x = y
    · subst h; simp
    · have h2 : (x == y) = false := beq_eq_false_iff_ne.2 h
      have h3 : (x :: xs == y :: ys) = false := by rw [List.cons_beq_cons, h2]; rfl
      rw [h2, h3]; simp
theorem keq_st {n n' : Nat} {p p' : List Int} (hp : p.length = 5) (hp' : p'.length = 5) : keq six (.agg (stC n p)) (.agg (stC n' p')) = some (decide (n = n' ∧ p = p')) := by
  have := ceqs_ints ((n : Int) :: p) ((n' : Int) :: p') (by simp [hp, hp'])
  simp only [List.length_cons, hp] at this
  simp only [keq, six, if_true]
  refine Eq.trans this ?_
  congr 1
  by_cases e1 : n = n'
  · subst e1
    by_cases e2 : p = p' <;> simp [e2]
  · have : (n : Int) ≠ n' := by omega
    simp [this, e1]

def memoE (M : List (Nat × List Int × AV)) : List (AV × AV) := M.map fun m => (.agg (stC m.1 m.2.1), m.2.2)
theorem find_memo {n : Nat} {p : List Int} (hp : p.length = 5) : ∀ (M : List (Nat × List Int × AV)) (i : Nat), (∀ m ∈ M, m.2.1.length = 5) →
    find six (.agg (stC n p)) (memoE M) i = some none ∨ ∃ (j : Nat) (x : AV), M[j]? = some (n, p, x) ∧ find six (.agg (stC n p)) (memoE M) i = some (some (i + j, x))
  | [], i, _ => .inl rfl
  | (n', p', x) :: M, i, hM => by
    have hp' := hM _ List.mem_cons_self
    have ih := find_memo (n := n) hp M (i + 1) fun m hm => hM m (List.mem_cons_of_mem _ hm)
    simp only [memoE, List.map_cons, find] at ih ⊢
    rw [keq_st hp hp']
    by_cases e : n = n' ∧ p = p'
    · obtain ⟨rfl, rfl⟩ := e
      exact .inr ⟨0, x, rfl, by simp⟩
    · simp only [e, decide_false]
      rcases ih with h1 | ⟨j, y, h1, h2⟩
      · exact .inl h1
      · exact .inr ⟨j + 1, y, by simpa using h1, by rw [h2, Nat.add_assoc, Nat.add_comm 1 j]⟩

def stepS (b : BayD) (next : List Int → ChD) (n : Nat) (p : List Int) (cur : ChD) (bits : Nat) : ChD :=
  if allowD b n p (listedD bits) && (next (putD n p ((listedD bits).map Int.toNat))).ok then
    (if lessC ⟨(next (putD n p ((listedD bits).map Int.toNat))).nights + min 1 (listedD bits).length, (next (putD n p ((listedD bits).map Int.toNat))).changes + (listedD bits).length, listedD bits, true⟩ cur then
      ⟨(next (putD n p ((listedD bits).map Int.toNat))).nights + min 1 (listedD bits).length, (next (putD n p ((listedD bits).map Int.toNat))).changes + (listedD bits).length, listedD bits, true⟩ else cur)
  else cur
def searchD (b : BayD) : Nat → Nat → List Int → ChD
  | 0, _, _ => ⟨0, 0, [], true⟩
  | k + 1, n, p => (List.range (2 ^ b.slots.length)).foldl (stepS b (searchD b k (n + 1)) n p) ⟨0, 0, [], false⟩

def chOk (k : Nat) (d : ChD) : Prop := 0 ≤ d.nights ∧ d.nights ≤ k ∧ 0 ≤ d.changes ∧ d.changes ≤ 5 * k ∧ d.list.length ≤ 5
theorem stepS_ok {b : BayD} {next : List Int → ChD} {n k : Nat} {p : List Int} (hnext : ∀ p, chOk k (next p)) {cur : ChD} (hc : chOk (k + 1) cur) (bits : Nat) : chOk (k + 1) (stepS b next n p cur bits) := by
  unfold stepS
  have h1 := hnext (putD n p ((listedD bits).map Int.toNat))
  have h2 := bitsL_len (bits := bits) (j := 5)
  split
  · split
    · simp only [chOk, listedD] at h1 ⊢
      omega
    · exact hc
  · exact hc
theorem foldS_ok {b : BayD} {next : List Int → ChD} {n k : Nat} {p : List Int} (hnext : ∀ p, chOk k (next p)) (l : List Nat) : ∀ {cur : ChD}, chOk (k + 1) cur → chOk (k + 1) (l.foldl (stepS b next n p) cur) := by
  induction l with
  | nil => exact fun h => h
  | cons a l ih => exact fun h => ih (stepS_ok hnext h a)
theorem searchD_ok (b : BayD) : ∀ (k n : Nat) (p : List Int), chOk k (searchD b k n p)
  | 0, n, p => by simp [searchD, chOk]
  | k + 1, n, p => foldS_ok (searchD_ok b k (n + 1)) _ (by simp [chOk]; omega)

structure SB where
  ib : Nat
  it : Nat
  imb : Nat
  iab : Nat
  isb : Nat
  im : Nat
def SB.args (s : SB) : List AV := [.ptr (.own s.ib 0), .ptr (.own s.imb 0), .ptr (.own s.iab 0), .ptr (.own s.isb 0)]

theorem msk_in {ms : List Nat} {H : Heap} {c : Nat} (h : c ∈ ms) (hc : c < H.length) : (msk ms H)[c]? = some none := by rw [msk_get _ _ _ hc, if_pos h]
theorem msk_out {ms : List Nat} {H : Heap} {c : Nat} (h : c ∉ ms) : (msk ms H)[c]? = H[c]? := by
  by_cases hc : c < H.length
  · rw [msk_get _ _ _ hc, if_neg h]
  · rw [List.getElem?_eq_none (by rw [msk_len]; omega), List.getElem?_eq_none (by omega)]
theorem hsub_msks {ms : List Nat} {A B : Heap} (hl : A.length ≤ B.length) (h : ∀ (i : Nat) b, i ∉ ms → A[i]? = some (some b) → B[i]? = some (some b)) : HSub (msk ms A) (msk ms B) := by
  refine ⟨by rw [msk_len, msk_len]; exact hl, fun i b e => ?_⟩
  by_cases hi : i ∈ ms
  · by_cases hc : i < A.length
    · rw [msk_in hi hc] at e; cases e
    · rw [List.getElem?_eq_none (by rw [msk_len]; omega)] at e; cases e
  · rw [msk_out hi] at e ⊢; exact h i b hi e
theorem hsub_less {ms ns : List Nat} {A : Heap} (h : ∀ i ∈ ms, i ∈ ns) : HSub (msk ns A) (msk ms A) := by
  refine ⟨by rw [msk_len, msk_len]; exact Nat.le_refl _, fun i b e => ?_⟩
  by_cases hi : i ∈ ns
  · by_cases hc : i < A.length
    · rw [msk_in hi hc] at e; cases e
    · rw [List.getElem?_eq_none (by rw [msk_len]; omega)] at e; cases e
  · rw [msk_out hi] at e; rw [msk_out fun x => hi (h i x)]; exact e
theorem hsub_un {ms : List Nat} {A : Heap} : HSub (msk ms A) A := hsub_less (ms := []) (fun i hi => by cases hi)
theorem msk_set {ms : List Nat} {A : Heap} {i : Nat} {x : Option Blk} (h : i ∈ ms) : msk ms (A.set i x) = msk ms A := by
  refine List.ext_getElem? fun c => ?_
  by_cases hc : c < A.length
  · rw [msk_get _ _ _ (by simpa using hc), msk_get _ _ _ hc]
    split
    · rfl
    · rename_i hcm
      rw [List.getElem?_set_ne fun e => hcm (by rw [← e]; exact h)]
  · rw [List.getElem?_eq_none (by rw [msk_len, List.length_set]; omega), List.getElem?_eq_none (by rw [msk_len]; omega)]
theorem hsub_mapp {ms : List Nat} {A L : Heap} : HSub (msk ms A) (msk ms (A ++ L)) := hsub_msks (by simp) fun i b _ e => getElem?_app_left e

structure SInv (w0 : World) (b : BayD) (v : BayV) (tv : AV) (s : SB) (ms : List Nat) (H : Heap) : Prop where
  b1 : H[s.ib]? = some (some (.row (bayC b v)))
  b2 : H[s.it]? = some (some (.row [tv]))
  b3 : H[s.imb]? = some (some (.row [.map s.im]))
  b4 : H[s.iab]? = some (some (.row [.fn (.func 74) [] [.ptr (.own s.ib 0), .ptr (.own s.it 0)]]))
  b5 : H[s.isb]? = some (some (.row [.fn (.func 76) [] s.args]))
  n0 : s.im ∈ ms
  n1 : ∀ i ∈ ms, i ≠ s.ib ∧ i ≠ s.it ∧ i ≠ s.imb ∧ i ≠ s.iab ∧ i ≠ s.isb
  n2 : ∀ i ∈ ms, i < H.length
  hR : BayR w0 (msk ms H) b v
  hT : LL w0 (msk ms H) tv (untilT b)
  memo : ∃ M, H[s.im]? = some (some (.map (memoE M))) ∧ ∀ n p x, (n, p, x) ∈ M → n ≤ b.days.length ∧ p.length = 5 ∧ (∀ y ∈ p, -1 ≤ y ∧ y < n) ∧
    ∃ lv, x = .agg ((searchD b (b.days.length - n) n p).c lv) ∧ SlI w0 (msk ms H) lv (searchD b (b.days.length - n) n p).list

section
variable {b : BayD} {v : BayV} {tv : AV} {s : SB} {H : Heap} {ms : List Nat}
theorem SInv.lt (I : SInv w0 b v tv s ms H) : s.im < H.length := by obtain ⟨M, e, _⟩ := I.memo; exact get_lt e
theorem SInv.mono (I : SInv w0 b v tv s ms H) {G : Heap} (hl : H.length ≤ G.length) (hs : ∀ (i : Nat) c, i ∉ ms → H[i]? = some (some c) → G[i]? = some (some c)) (hm : G[s.im]? = H[s.im]?) : SInv w0 b v tv s ms G := by
  have hh := hsub_msks hl hs
  refine ⟨hs _ _ (fun e => (I.n1 _ e).1 rfl) I.b1, hs _ _ (fun e => (I.n1 _ e).2.1 rfl) I.b2, hs _ _ (fun e => (I.n1 _ e).2.2.1 rfl) I.b3, hs _ _ (fun e => (I.n1 _ e).2.2.2.1 rfl) I.b4, hs _ _ (fun e => (I.n1 _ e).2.2.2.2 rfl) I.b5, I.n0, I.n1, fun i hi => Nat.lt_of_lt_of_le (I.n2 i hi) hl, I.hR.sub hh, I.hT.sub hh, ?_⟩
  obtain ⟨M, e, hM⟩ := I.memo
  refine ⟨M, by rw [hm]; exact e, fun n p x hx => ?_⟩
  obtain ⟨h1, h2, h3, lv, h4, h5⟩ := hM n p x hx
  exact ⟨h1, h2, h3, lv, h4, Sl.sub h5 hh⟩
theorem SInv.app (I : SInv w0 b v tv s ms H) (L : Heap) : SInv w0 b v tv s ms (H ++ L) :=
  I.mono (by simp) (fun i c _ e => getElem?_app_left e) (by rw [List.getElem?_append_left I.lt])
theorem SInv.less (I : SInv w0 b v tv s ms H) {ns : List Nat} (h : ∀ i ∈ ns, i ∈ ms) (h0 : s.im ∈ ns) : SInv w0 b v tv s ns H := by
  have hh : HSub (msk ms H) (msk ns H) := hsub_less h
  refine ⟨I.b1, I.b2, I.b3, I.b4, I.b5, h0, fun i hi => I.n1 i (h i hi), fun i hi => I.n2 i (h i hi), I.hR.sub hh, I.hT.sub hh, ?_⟩
  obtain ⟨M, e, hM⟩ := I.memo
  refine ⟨M, e, fun n p x hx => ?_⟩
  obtain ⟨h1, h2, h3, lv, h4, h5⟩ := hM n p x hx
  exact ⟨h1, h2, h3, lv, h4, Sl.sub h5 hh⟩
theorem SInv.more (I : SInv w0 b v tv s ms H) {L : Heap} {ks : List Nat} (hi : ∀ i ∈ ks, H.length ≤ i ∧ i < H.length + L.length) : SInv w0 b v tv s (ks ++ ms) (H ++ L) := by
  have hh : HSub (msk ms H) (msk (ks ++ ms) (H ++ L)) := by
    refine ⟨by rw [msk_len, msk_len]; simp, fun c q e => ?_⟩
    have hc : c < H.length := by have := get_lt e; rwa [msk_len] at this
    have hcm : c ∉ ms := fun x => by rw [msk_in x hc] at e; cases e
    rw [msk_out hcm] at e
    rw [msk_out (by simp only [List.mem_append, not_or]; exact ⟨fun x => by have := hi c x; omega, hcm⟩)]
    exact getElem?_app_left e
  refine ⟨getElem?_app_left I.b1, getElem?_app_left I.b2, getElem?_app_left I.b3, getElem?_app_left I.b4, getElem?_app_left I.b5, List.mem_append_right _ I.n0, fun q hq => ?_, fun q hq => ?_, I.hR.sub hh, I.hT.sub hh, ?_⟩
  · rcases List.mem_append.1 hq with hq | hq
    · have h0 := hi q hq
      have h1 := get_lt I.b1
      have h2 := get_lt I.b2
      have h3 := get_lt I.b3
      have h4 := get_lt I.b4
      have h5 := get_lt I.b5
      refine ⟨?_, ?_, ?_, ?_, ?_⟩ <;> omega
    · exact I.n1 q hq
  · rw [List.length_append]
    rcases List.mem_append.1 hq with hq | hq
    · exact (hi q hq).2
    · have := I.n2 q hq; omega
  · obtain ⟨M, e, hM⟩ := I.memo
    refine ⟨M, getElem?_app_left e, fun n p x hx => ?_⟩
    obtain ⟨h1, h2, h3, lv, h4, h5⟩ := hM n p x hx
    exact ⟨h1, h2, h3, lv, h4, Sl.sub h5 hh⟩
end
end Go.Proofs.Ab

namespace Go.Proofs.Ab
open Go Go.Proofs
variable {w0 : World}
attribute [local irreducible] ACall ACallV AYield DCall DCallV rvC rdC lp rg dr ex un rv rd'

def SearchK (w0 : World) (b : BayD) (v : BayV) (tv : AV) (s : SB) (ms : List Nat) (H : Heap) (k n : Nat) (p : List Int) (x : AV) (H' : Heap) : Prop :=
  SInv w0 b v tv s ms H' ∧ H.length ≤ H'.length ∧ (∀ (i : Nat) c, i ≠ s.im → H[i]? = some (some c) → H'[i]? = some (some c)) ∧ ∃ lv, x = .agg ((searchD b k n p).c lv) ∧ SlI w0 (msk ms H') lv (searchD b k n p).list

theorem SInv.set {b : BayD} {v : BayV} {tv : AV} {s : SB} {H : Heap} {ms : List Nat} (I : SInv w0 b v tv s ms H) {i : Nat} {x : Option Blk} (hi : i ∈ ms) (hne : i ≠ s.im) : SInv w0 b v tv s ms (H.set i x) :=
  I.mono (by simp) (fun q c hq e => by rw [List.getElem?_set_ne fun e2 => hq (by rw [← e2]; exact hi)]; exact e) (by rw [List.getElem?_set_ne hne])
theorem stC_set {m x : Nat} {P : List Int} {y : Int} (hP : P.length = 5) (hx : x < 5) : (stC m P).take (1 + x) ++ .int .i64 y :: (stC m P).drop (1 + (x + 1)) = stC m (P.set x y) := by
  rw [← Nat.add_assoc, splice_r (by rw [stC_len hP]; omega), Nat.add_comm 1 x, stC, List.set_cons_succ, ints_set]; rfl

theorem search_c (b : BayD) (v : BayV) (tv : AV) (s : SB) (hB : bayB b = true) : ∀ (k n : Nat) (p : List Int) (h : Heap) (ms : List Nat), n + k = b.days.length → p.length = 5 → (∀ y ∈ p, -1 ≤ y ∧ y < n) → SInv w0 b v tv s ms h →
    ACall Try.prog w0 76 (.agg (stC n p) :: s.args) h (SearchK w0 b v tv s ms h k n p) := by
  intro k
  induction k with
  | zero =>
    intro n p h ms hk hp hpb I
    refine ACall_sx hmix mf76_ok mf76_b mf76_g (Nat.le_of_ble_eq_true rfl) fun hb ha => ex_in ?_
    have b1 : ∀ L, (h ++ L)[s.ib]? = some (some (.row (bayC b v))) := fun L => getElem?_app_left I.b1
    have l2 := (I.hR.sub hsub_un).days.use.1
    simp only [List.length_map] at l2
    have e1 : (n : Int) = b.days.length := by omega
    simp only [go_sem, mf76, SB.args, stC_one, stC_len hp, stC_0, b1, l2, e1, ↓reduceIte, Nat.reduceEqDiff, Nat.reduceAdd, Nat.reduceSub, Nat.reduceMul, Nat.reduceLT, Nat.reduceLeDiff, Int.reduceLE, Int.reduceLT, Int.reduceAdd, Int.reduceSub, Int.reduceMul, Int.reduceEq, Int.reduceBEq, Int.reduceBNe, Int.reduceNeg, Int.reduceToNat, reduceCtorEq]
    exact ⟨I.app _, by simp, fun i c _ e => getElem?_app_left e, .nilS, rfl, .inl ⟨rfl, rfl⟩⟩
  | succ k ihk =>
    intro n p h ms hk hp hpb I
    refine ACall_sx hmix mf76_ok mf76_b mf76_g (Nat.le_of_ble_eq_true rfl) fun hb ha => ex_in ?_
    have b1 : ∀ L, (h ++ L)[s.ib]? = some (some (.row (bayC b v))) := fun L => getElem?_app_left I.b1
    have b3 : ∀ L, (h ++ L)[s.imb]? = some (some (.row [.map s.im])) := fun L => getElem?_app_left I.b3
    have l1 := (I.hR.sub hsub_un).slots.use.1
    have l2 := (I.hR.sub hsub_un).days.use.1
    simp only [List.length_map] at l1 l2
    have e1 : ¬ (n : Int) = b.days.length := by omega
    have bs := bayB_spec hB
    obtain ⟨M, hM, hMok⟩ := I.memo
    have b6 : ∀ L, (h ++ L)[s.im]? = some (some (.map (memoE M))) := fun L => getElem?_app_left hM
    have e2 := bin_shl1 (n := b.slots.length) (by omega)
    have hnn : (keq six (.agg (stC n p)) (.agg (stC n p))).isNone = false := by rw [keq_st hp hp]; rfl
    have ht6 := stC_take (n := n) hp
    rcases find_memo (n := n) hp M 0 (fun m hm => (hMok _ _ _ hm).2.1) with hf | ⟨j, x, hj, hf⟩
    · have elook : ∀ L, lookV (h ++ L) six (.agg [.int .i64 0, .int .i64 0, .nilS, .bool false]) true (.map s.im) (.agg (stC n p)) = some (.tup [.agg [.int .i64 0, .int .i64 0, .nilS, .bool false], .bool false]) := fun L => by
        simp only [lookV, hnn, b6, hf]; rfl
      simp only [six] at elook
      simp only [go_sem, mf76, SB.args, stC_one, stC_len hp, stC_0, b1, b3, l1, l2, e1, ht6, elook, e2, ↓reduceIte, Nat.reduceEqDiff, Nat.reduceAdd, Nat.reduceSub, Nat.reduceMul, Nat.reduceLT, Nat.reduceLeDiff, Int.reduceLE, Int.reduceLT, Int.reduceAdd, Int.reduceSub, Int.reduceMul, Int.reduceEq, Int.reduceBEq, Int.reduceBNe, Int.reduceNeg, Int.reduceToNat, reduceCtorEq]
      clear elook hf b6 hM hMok b3
      have hlt := I.lt
      obtain ⟨cur, ecur⟩ : ∃ cur : Nat → ChD, cur = fun j => (List.range j).foldl (stepS b (searchD b k (n + 1)) n p) ⟨0, 0, [], false⟩ := ⟨_, rfl⟩
      have hcur : ∀ j, cur (j + 1) = stepS b (searchD b k (n + 1)) n p (cur j) j := fun j => by rw [ecur]; simp only [List.range_succ, List.foldl_append]; rfl
      have hcok : ∀ j, chOk (k + 1) (cur j) := fun j => by rw [ecur]; exact foldS_ok (searchD_ok b k (n + 1)) _ (by simp [chOk]; omega)
      have h32 : 2 ^ b.slots.length ≤ 32 := by
        have := Nat.pow_le_pow_right (n := 2) (by omega) (show b.slots.length ≤ 5 by omega); omega
      obtain ⟨ns, ens⟩ : ∃ ns, ns = [h.length + 1, h.length + 3] ++ ms := ⟨_, rfl⟩
      have hns : ∀ i ∈ ms, i ∈ ns := fun i hi => by rw [ens]; simp [hi]
      have hI0 : SInv w0 b v tv s ns (h ++ [some (.row (stC n p)), some (.row [.int .i64 0, .int .i64 0, .nilS, .bool false]), some (.row [.int .i64 0, .int .i64 0, .nilS, .bool false]), some (.row [.int .i64 0, .int .i64 0, .nilS, .bool false])]) := by
        rw [ens]
        exact I.more (by simp)
      refine lp_ind (S := Nat × Heap × AV) (F := fun t => [(2, .ptr (.own s.imb 0)), (3, .ptr (.own s.iab 0)), (4, .ptr (.own s.isb 0)), (5, .ptr (.own h.length 0)), (6, .ptr (.own (h.length + 1) 0)), (9, .ptr (.own (h.length + 3) 0)), (35, .int .i64 ((2 ^ b.slots.length : Nat) : Int)), (36, .int .i64 t.1)])
        (H := fun t => t.2.1) (meas := fun t => 2 ^ b.slots.length - t.1)
        (Inv := fun t => t.1 ≤ 2 ^ b.slots.length ∧ SInv w0 b v tv s ns t.2.1 ∧ (h.length + 4 ≤ t.2.1.length ∧ ∀ (i : Nat) c, i ≠ s.im → h[i]? = some (some c) → t.2.1[i]? = some (some c)) ∧ t.2.1[h.length]? = some (some (.row (stC n p))) ∧ (∃ c, c.length = 4 ∧ t.2.1[h.length + 1]? = some (some (.row c))) ∧
          t.2.1[h.length + 3]? = some (some (.row ((cur t.1).c t.2.2))) ∧ SlI w0 (msk ns t.2.1) t.2.2 (cur t.1).list)
        (0, h ++ [some (.row (stC n p)), some (.row [.int .i64 0, .int .i64 0, .nilS, .bool false]), some (.row [.int .i64 0, .int .i64 0, .nilS, .bool false]), some (.row [.int .i64 0, .int .i64 0, .nilS, .bool false])], .nilS)
        ⟨Nat.zero_le _, hI0, ⟨by simp, fun i c _ e => getElem?_app_left e⟩, by rw [List.getElem?_append_right (Nat.le_refl _)]; simp, ⟨_, rfl, by rw [List.getElem?_append_right (by omega), Nat.add_sub_cancel_left]; rfl⟩, by rw [List.getElem?_append_right (by omega), Nat.add_sub_cancel_left, ecur]; rfl, by rw [ecur]; exact .inl ⟨rfl, rfl⟩⟩ rfl rfl ?_
      rintro ⟨j, H, lv⟩ ⟨hj, J, jsub, j5, ⟨c6, c6l, j6⟩, j9, jl⟩ ih
      simp only at hj J jsub j5 j6 j9 jl ih
      refine lp_step hmix L76_1_g [2, 3, 4, 5, 6, 9, 35, 36] L76_1.eq_1 ?_
      have f5 : ∀ L, (H ++ L)[h.length]? = some (some (.row (stC n p))) := fun L => getElem?_app_left j5
      have f6 : ∀ L, (H ++ L)[h.length + 1]? = some (some (.row c6)) := fun L => getElem?_app_left j6
      have f9 : ∀ L, (H ++ L)[h.length + 3]? = some (some (.row ((cur j).c lv))) := fun L => getElem?_app_left j9
      have fa : ∀ L, (H ++ L)[s.iab]? = some (some (.row [.fn (.func 74) [] [.ptr (.own s.ib 0), .ptr (.own s.it 0)]])) := fun L => getElem?_app_left J.b4
      have fs : ∀ L, (H ++ L)[s.isb]? = some (some (.row [.fn (.func 76) [] s.args])) := fun L => getElem?_app_left J.b5
      have fm : ∀ L, (H ++ L)[s.imb]? = some (some (.row [.map s.im])) := fun L => getElem?_app_left J.b3
      have hltH := J.lt
      have hnw : ∀ L : Heap, h.length + 4 ≤ (H ++ L).length ∧ ∀ (i : Nat) c, i ≠ s.im → h[i]? = some (some c) → (H ++ L)[i]? = some (some c) := fun L => ⟨by have := jsub.1; rw [List.length_append]; omega, fun i c h1 h2 => getElem?_app_left (jsub.2 i c h1 h2)⟩
      by_cases hjn : j < 2 ^ b.slots.length
      · have g1 : (j : Int) < ((2 ^ b.slots.length : Nat) : Int) := by omega
        simp only [go_sem, g1, ↓reduceIte, Nat.reduceEqDiff, Nat.reduceAdd, Nat.reduceSub, Nat.reduceMul, Nat.reduceLT, Nat.reduceLeDiff, Int.reduceLE, Int.reduceLT, Int.reduceAdd, Int.reduceSub, Int.reduceMul, Int.reduceEq, Int.reduceBEq, Int.reduceBNe, Int.reduceNeg, Int.reduceToNat, reduceCtorEq]
        refine rvC_use (listed_c j (by omega)).v ?_
        simp only [go_sem, fa, f5, ht6, stC_len hp, ↓reduceIte, Nat.reduceEqDiff, Nat.reduceAdd, Nat.reduceSub, Nat.reduceMul, Nat.reduceLT, Nat.reduceLeDiff, Int.reduceLE, Int.reduceLT, Int.reduceAdd, Int.reduceSub, Int.reduceMul, Int.reduceEq, Int.reduceBEq, Int.reduceBNe, Int.reduceNeg, Int.reduceToNat, reduceCtorEq]
        have hl5 : (listedD j).length ≤ 5 := bitsL_len
        refine rvC_use (allow_c b v n p (listedD j) _ tv (getElem?_app_left J.b1) (getElem?_app_left J.b2) (J.hR.sub hsub_un).app hB (J.hT.sub hsub_un).app (by omega) hp hpb own_SlI (by omega)).vc ?_
        simp only [go_sem, ↓reduceIte, Nat.reduceEqDiff, Nat.reduceAdd, Nat.reduceSub, Nat.reduceMul, Nat.reduceLT, Nat.reduceLeDiff, Int.reduceLE, Int.reduceLT, Int.reduceAdd, Int.reduceSub, Int.reduceMul, Int.reduceEq, Int.reduceBEq, Int.reduceBNe, Int.reduceNeg, Int.reduceToNat, reduceCtorEq]
        refine ⟨fun ea => ?_, fun ea => ?_⟩
        · refine ⟨(by unfold I64; omega), ih (j + 1, H ++ ownB (ints (listedD j)), lv) ⟨by simp only; omega, J.app _, hnw _, f5 _, ⟨c6, c6l, f6 _⟩, ?_, ?_⟩ (by simp only; omega)⟩
          · simp only [hcur, stepS, ea, Bool.false_and, Bool.false_eq_true, if_false]; exact f9 _
          · simp only [hcur, stepS, ea, Bool.false_and, Bool.false_eq_true, if_false]; exact Sl.sub jl hsub_mapp
        · obtain ⟨H1, eH1⟩ : ∃ H1, H1 = H ++ ownB (ints (listedD j)) := ⟨_, rfl⟩
          have J1 : SInv w0 b v tv s ns H1 := eH1 ▸ J.app _
          have k5 : H1[h.length]? = some (some (.row (stC n p))) := eH1 ▸ f5 _
          have k6 : H1[h.length + 1]? = some (some (.row c6)) := eH1 ▸ f6 _
          have k9 : H1[h.length + 3]? = some (some (.row ((cur j).c lv))) := eH1 ▸ f9 _
          have ksub : h.length + 4 ≤ H1.length ∧ ∀ (i : Nat) c, i ≠ s.im → h[i]? = some (some c) → H1[i]? = some (some c) := eH1 ▸ hnw _
          have kl : SlI w0 (msk ns H1) lv (cur j).list := by rw [eH1]; exact Sl.sub jl hsub_mapp
          have kc : SlI w0 (msk ns H1) (ownV 1 H.length (listedD j).length) (listedD j) := by
            have := own_SlI (w0 := w0) (h := msk ns H) (l := listedD j)
            rw [msk_len] at this
            refine Sl.sub this ⟨by rw [eH1, msk_len, List.length_append, List.length_append, msk_len]; exact Nat.le_refl _, fun q c e => ?_⟩
            have hq : q ∈ ns → q < H.length := J.n2 q
            by_cases hqn : q ∈ ns
            · rw [List.getElem?_append_left (by rw [msk_len]; exact hq hqn), msk_in hqn (hq hqn)] at e; cases e
            · rw [msk_out hqn, eH1]
              by_cases hql : q < H.length
              · rw [List.getElem?_append_left (by rw [msk_len]; exact hql), msk_out hqn] at e
                rw [List.getElem?_append_left hql]; exact e
              · rw [List.getElem?_append_right (by rw [msk_len]; omega), msk_len] at e
                rw [List.getElem?_append_right (by omega)]; exact e
          rw [← eH1]
          generalize ownV 1 H.length (listedD j).length = cv at kc ⊢
          obtain ⟨l, el⟩ : ∃ l, l = listedD j := ⟨_, rfl⟩
          rw [← el] at kc hl5 ea
          clear f5 f6 f9 fa fs fm hnw J j5 j6 j9 jl jsub eH1 hltH
          have lc := (SlI.use kc).1
          have kps : ((stC n p).drop 1).take 5 = ints p := by
            simp only [stC, List.drop_succ_cons, List.drop_zero]; exact List.take_of_length_le (by rw [ints_len, hp]; exact Nat.le_refl _)
          simp only [go_sem, k5, stC_0, stC_len hp, kps, ints_one, ints_len, hp, lc, List.append_nil, ↓reduceIte, Nat.reduceEqDiff, Nat.reduceAdd, Nat.reduceSub, Nat.reduceMul, Nat.reduceLT, Nat.reduceLeDiff, Int.reduceLE, Int.reduceLT, Int.reduceAdd, Int.reduceSub, Int.reduceMul, Int.reduceEq, Int.reduceBEq, Int.reduceBNe, Int.reduceNeg, Int.reduceToNat, reduceCtorEq]
          refine ⟨(by unfold I64; omega), ?_⟩
          have hst : AV.int .i64 ((n : Int) + 1) :: ints p = stC (n + 1) p := rfl
          rw [hst]
          obtain ⟨_, cq, cix, crd⟩ := SlI.use kc
          have kci : ∀ i (hi : i < l.length), idxsV 1 cv (some i) = some (.ptr (cq.add i)) := cix
          have crd' : ∀ i (hi : i < l.length) L, rd w0 (H1 ++ L) (cq.add i) = some (.int .i64 l[i]) := fun i hi L => rd_app (HSub.rd hsub_un (by simpa using crd i hi []))
          have hlb : ∀ x ∈ l, 0 ≤ x ∧ x < 5 := fun x hx => by
            rw [el] at hx
            simp only [listedD, bitsL, List.mem_map, List.mem_filter, List.mem_range] at hx
            obtain ⟨y, ⟨hy, _⟩, rfl⟩ := hx
            simp only [Int.ofNat_eq_natCast]; omega
          obtain ⟨c, ec⟩ : ∃ c, c = l.map Int.toNat := ⟨_, rfl⟩
          have hcl : c.length = l.length := by rw [ec, List.length_map]
          have hcs : ∀ i (hi : i < c.length), ∃ hi' : i < l.length, l[i] = (c[i] : Int) ∧ c[i] < 5 := fun i hi => by
            have hi' : i < l.length := by omega
            have := hlb l[i] (List.getElem_mem hi')
            refine ⟨hi', ?_, ?_⟩ <;> simp only [ec, List.getElem_map] <;> omega
          refine lp_for (S := Unit) (fun i _ => [(2, .ptr (.own s.imb 0)), (3, .ptr (.own s.iab 0)), (4, .ptr (.own s.isb 0)), (5, .ptr (.own h.length 0)), (6, .ptr (.own (h.length + 1) 0)), (9, .ptr (.own (h.length + 3) 0)), (11, cv), (12, .ptr (.own H1.length 0)), (35, .int .i64 ((2 ^ b.slots.length : Nat) : Int)), (36, .int .i64 j), (52, cv), (53, .int .i64 l.length), (54, .int .i64 i)])
            (fun i _ => H1 ++ [some (.row (stC (n + 1) (putD n p (c.take i))))]) (fun _ _ => True) l.length () trivial rfl (by simp [putD]) (fun i _ hil _ ih2 => ?_) (fun _ _ => ?_)
          · refine lp_step hmix L76_0_g [2, 3, 4, 5, 6, 9, 11, 12, 35, 36, 52, 53, 54] L76_0.eq_1 ?_
            have m1 : (i : Int) < l.length := by omega
            have m2 := cix i hil
            obtain ⟨_, m4, m5⟩ := hcs i (by omega)
            have m3 : ∀ L, rd w0 (H1 ++ L) (cq.add i) = some (.int .i64 c[i]) := fun L => by rw [crd' i hil L, m4]
            have m6 : ∀ L, (H1 ++ L)[h.length]? = some (some (.row (stC n p))) := fun L => getElem?_app_left k5
            obtain ⟨P, eP⟩ : ∃ P, P = putD n p (c.take i) := ⟨_, rfl⟩
            have hP5 : P.length = 5 := by rw [eP, putD_len, hp]
            have ih2 := ih2 () trivial
            rw [take_succ' (show i < c.length by omega), putD_snoc, ← eP] at ih2
            rw [← eP]
            simp only [go_sem, m1, m2, m3, m6, stC_0, stC_len hP5, Nat.mul_one, ↓reduceIte, Nat.reduceEqDiff, Nat.reduceAdd, Nat.reduceSub, Nat.reduceMul, Nat.reduceLT, Nat.reduceLeDiff, Int.reduceLE, Int.reduceLT, Int.reduceAdd, Int.reduceSub, Int.reduceMul, Int.reduceEq, Int.reduceBEq, Int.reduceBNe, Int.reduceNeg, Int.reduceToNat, reduceCtorEq]
            rw [stC_set hP5 m5]
            exact ⟨m5, by omega, (by unfold I64; omega), ih2⟩
          · refine lp_step hmix L76_0_g [2, 3, 4, 5, 6, 9, 11, 12, 35, 36, 52, 53, 54] L76_0.eq_1 ?_
            have m1 : ¬ (l.length : Int) < l.length := by omega
            rw [← hcl, List.take_of_length_le (Nat.le_refl _), hcl]
            have hP5 : (putD n p c).length = 5 := by rw [putD_len, hp]
            obtain ⟨H2, eH2⟩ : ∃ H2, H2 = H1 ++ [some (.row (stC (n + 1) (putD n p c)))] := ⟨_, rfl⟩
            have J2 : SInv w0 b v tv s ns H2 := eH2 ▸ J1.app _
            have q5 : H2[h.length]? = some (some (.row (stC n p))) := eH2 ▸ getElem?_app_left k5
            have q6 : H2[h.length + 1]? = some (some (.row c6)) := eH2 ▸ getElem?_app_left k6
            have q9 : H2[h.length + 3]? = some (some (.row ((cur j).c lv))) := eH2 ▸ getElem?_app_left k9
            have q12 : H2[H1.length]? = some (some (.row (stC (n + 1) (putD n p c)))) := by rw [eH2, List.getElem?_append_right (Nat.le_refl _)]; simp
            have qsub : h.length + 4 ≤ H2.length ∧ ∀ (i : Nat) c, i ≠ s.im → h[i]? = some (some c) → H2[i]? = some (some c) := by rw [eH2]; exact ⟨by rw [List.length_append]; have := ksub.1; omega, fun i c h1 h2 => getElem?_app_left (ksub.2 i c h1 h2)⟩
            have ql : SlI w0 (msk ns H2) lv (cur j).list := by rw [eH2]; exact Sl.sub kl hsub_mapp
            have qc : SlI w0 (msk ns H2) cv l := by rw [eH2]; exact Sl.sub kc hsub_mapp
            have qb5 := J2.b5
            have hst6 := stC_take (n := n + 1) hP5
            rw [← eH2]
            have hH1 := hlt
            simp only [go_sem, m1, qb5, q12, stC_len hP5, hst6, ↓reduceIte, Nat.reduceEqDiff, Nat.reduceAdd, Nat.reduceSub, Nat.reduceMul, Nat.reduceLT, Nat.reduceLeDiff, Int.reduceLE, Int.reduceLT, Int.reduceAdd, Int.reduceSub, Int.reduceMul, Int.reduceEq, Int.reduceBEq, Int.reduceBNe, Int.reduceNeg, Int.reduceToNat, reduceCtorEq]
            refine rvC_post (ACall.vc (first := []) (args := [.agg (stC (n + 1) (putD n p c))]) (ihk (n + 1) (putD n p c) H2 ns (by omega) hP5 (putD_bd hpb) J2)) ?_
            rintro y H3 ⟨J3, len3, sub3, lv2, rfl, sl2⟩
            obtain ⟨d, ed⟩ : ∃ d, d = searchD b k (n + 1) (putD n p c) := ⟨_, rfl⟩
            have dok := searchD_ok b k (n + 1) (putD n p c)
            have hcj := hcur j
            simp only [stepS, ← el, ← ec, ea, ← ed, Bool.true_and] at hcj
            rw [← ed] at sl2 dok ⊢
            simp only [chOk] at dok
            have o2 := Sl.one sl2
            have o3 := Sl.one qc
            have r5 : ∀ L, (H3 ++ L)[h.length]? = some (some (.row (stC n p))) := fun L => getElem?_app_left (sub3 _ _ (by omega) q5)
            have r6 : ∀ L, (H3 ++ L)[h.length + 1]? = some (some (.row c6)) := fun L => getElem?_app_left (sub3 _ _ (by omega) q6)
            have r9 : ∀ L, (H3 ++ L)[h.length + 3]? = some (some (.row ((cur j).c lv))) := fun L => getElem?_app_left (sub3 _ _ (by omega) q9)
            have rsub : ∀ L : Heap, h.length + 4 ≤ (H3 ++ L).length ∧ ∀ (i : Nat) c, i ≠ s.im → h[i]? = some (some c) → (H3 ++ L)[i]? = some (some c) := fun L => ⟨by rw [List.length_append]; have := qsub.1; omega, fun i c h1 h2 => getElem?_app_left (sub3 i c h1 (qsub.2 i c h1 h2))⟩
            have hmsk : HSub (msk ns H2) (msk ns H3) := hsub_msks len3 fun i c hi e => sub3 i c (fun x => hi (x ▸ J3.n0)) e
            have rl : SlI w0 (msk ns H3) lv (cur j).list := Sl.sub ql hmsk
            have rc : SlI w0 (msk ns H3) cv l := Sl.sub qc hmsk
            have o4 := Sl.one rl
            have lc2 := (SlI.use rc).1
            simp only [go_sem, ChD.c, o2.1, o2.2, ↓reduceIte, Nat.reduceEqDiff, Nat.reduceAdd, Nat.reduceSub, Nat.reduceMul, Nat.reduceLT, Nat.reduceLeDiff, Int.reduceLE, Int.reduceLT, Int.reduceAdd, Int.reduceSub, Int.reduceMul, Int.reduceEq, Int.reduceBEq, Int.reduceBNe, Int.reduceNeg, Int.reduceToNat, reduceCtorEq]
            refine ⟨fun eo => ?_, fun eo => ?_⟩
            · refine ⟨(by unfold I64; omega), ih (j + 1, H3 ++ [_], lv) ⟨by simp only; omega, J3.app _, rsub _, r5 _, ⟨c6, c6l, r6 _⟩, ?_, ?_⟩ (by simp only; omega)⟩
              · simp only [hcj, eo, Bool.false_eq_true, if_false]; exact r9 _
              · simp only [hcj, eo, Bool.false_eq_true, if_false]; exact Sl.sub rl hsub_mapp
            · obtain ⟨nw, enw⟩ : ∃ nw : ChD, nw = ⟨d.nights + min 1 l.length, d.changes + l.length, l, true⟩ := ⟨_, rfl⟩
              have fin : ∀ (L : Heap) (cc : List AV) (vv : AV), cc = (cur (j + 1)).c vv → SlI w0 (msk ns H3) vv (cur (j + 1)).list → _ := fun L cc vv hcc hsl =>
                (show j + 1 ≤ 2 ^ b.slots.length ∧ SInv w0 b v tv s ns ((H3 ++ L).set (h.length + 3) (some (.row cc))) ∧ (h.length + 4 ≤ ((H3 ++ L).set (h.length + 3) (some (.row cc))).length ∧ ∀ (i : Nat) c, i ≠ s.im → h[i]? = some (some c) → ((H3 ++ L).set (h.length + 3) (some (.row cc)))[i]? = some (some c)) ∧
                    ((H3 ++ L).set (h.length + 3) (some (.row cc)))[h.length]? = some (some (.row (stC n p))) ∧ (∃ c, c.length = 4 ∧ ((H3 ++ L).set (h.length + 3) (some (.row cc)))[h.length + 1]? = some (some (.row c))) ∧
                    ((H3 ++ L).set (h.length + 3) (some (.row cc)))[h.length + 3]? = some (some (.row ((cur (j + 1)).c vv))) ∧ SlI w0 (msk ns ((H3 ++ L).set (h.length + 3) (some (.row cc)))) vv (cur (j + 1)).list from
                  ⟨by omega, (J3.app L).set (by rw [ens]; simp) (by omega), ⟨by rw [List.length_set]; exact (rsub L).1, fun i c h1 h2 => by rw [List.getElem?_set_ne (by have := get_lt h2; omega)]; exact (rsub L).2 i c h1 h2⟩,
                    by rw [List.getElem?_set_ne (by omega)]; exact r5 L, ⟨c6, c6l, by rw [List.getElem?_set_ne (by omega)]; exact r6 L⟩, by rw [List.getElem?_set_self (by have := (rsub L).1; omega), hcc], by rw [msk_set (by rw [ens]; simp)]; exact Sl.sub hsl hsub_mapp⟩)
              have hmin : min 1 (l.length : Int) = ((min 1 l.length : Nat) : Int) := by omega
              have hnl : nw.list = l := by rw [enw]
              simp only [go_sem, lc2, o3.1, o3.2, r9, o4.1, ChD.c, hmin, ↓reduceIte, Nat.reduceEqDiff, Nat.reduceAdd, Nat.reduceSub, Nat.reduceMul, Nat.reduceLT, Nat.reduceLeDiff, Int.reduceLE, Int.reduceLT, Int.reduceAdd, Int.reduceSub, Int.reduceMul, Int.reduceEq, Int.reduceBEq, Int.reduceBNe, Int.reduceNeg, Int.reduceToNat, reduceCtorEq]
              refine ⟨(by unfold I64; omega), (by unfold I64; omega), ?_⟩
              have hbc := betterC_c (w0 := w0) (h := H3 ++ [some (.row [.int .i64 d.nights, .int .i64 d.changes, lv2, .bool d.ok]), some (.row [.int .i64 (d.nights + ((min 1 l.length : Nat) : Int)), .int .i64 (d.changes + l.length), cv, .bool true])]) (cur j) nw lv cv (Sl.app (Sl.sub rl hsub_un)) (by rw [hnl]; exact Sl.app (Sl.sub rc hsub_un)) (by rw [hnl]; omega)
              have hcn : nw.c cv = [.int .i64 (d.nights + ((min 1 l.length : Nat) : Int)), .int .i64 (d.changes + l.length), cv, .bool true] := by rw [enw]; rfl
              rw [hcn] at hbc
              refine rvC_use hbc.v ?_
              by_cases hle : lessC nw (cur j) = true
              · rw [if_pos hle]
                simp only [go_sem, o3.1, o3.2, r9, ChD.c, ↓reduceIte, Nat.reduceEqDiff, Nat.reduceAdd, Nat.reduceSub, Nat.reduceMul, Nat.reduceLT, Nat.reduceLeDiff, Int.reduceLE, Int.reduceLT, Int.reduceAdd, Int.reduceSub, Int.reduceMul, Int.reduceEq, Int.reduceBEq, Int.reduceBNe, Int.reduceNeg, Int.reduceToNat, reduceCtorEq]
                refine ⟨(by unfold I64; omega), ?_⟩
                refine ih (j + 1, _, cv) (fin _ _ cv ?_ ?_) (by simp only; omega)
                · rw [hcj, eo, if_pos rfl]; simp only [← enw]; rw [if_pos hle, enw]; rfl
                · rw [hcj, eo, if_pos rfl]; simp only [← enw]; rw [if_pos hle, enw]; exact rc
              · rw [if_neg hle]
                simp only [go_sem, o4.1, o4.2, r9, ChD.c, ↓reduceIte, Nat.reduceEqDiff, Nat.reduceAdd, Nat.reduceSub, Nat.reduceMul, Nat.reduceLT, Nat.reduceLeDiff, Int.reduceLE, Int.reduceLT, Int.reduceAdd, Int.reduceSub, Int.reduceMul, Int.reduceEq, Int.reduceBEq, Int.reduceBNe, Int.reduceNeg, Int.reduceToNat, reduceCtorEq]
                refine ⟨(by unfold I64; omega), ?_⟩
                refine ih (j + 1, _, lv) (fin _ _ lv ?_ ?_) (by simp only; omega)
                · rw [hcj, eo, if_pos rfl]; simp only [← enw]; rw [if_neg hle]; rfl
                · rw [hcj, eo, if_pos rfl]; simp only [← enw]; rw [if_neg hle]; exact rl
      · have g1 : ¬ (j : Int) < ((2 ^ b.slots.length : Nat) : Int) := by omega
        have hjj : j = 2 ^ b.slots.length := by omega
        have hfinal : cur j = searchD b (k + 1) n p := by rw [hjj, ecur]; rfl
        obtain ⟨M, hM, hMok⟩ := J.memo
        have o1 := Sl.one jl
        have hmem : ∃ M2, mputV H six (.map s.im) (.agg (stC n p)) (.agg ((cur j).c lv)) = some (.undef, H.set s.im (some (.map (memoE M2)))) ∧ ∀ q ∈ M2, q ∈ M ∨ q = (n, p, .agg ((cur j).c lv)) := by
          rcases find_memo (n := n) hp M 0 (fun m hm => (hMok _ _ _ hm).2.1) with hf | ⟨i, x, hi, hf⟩
          · refine ⟨M ++ [(n, p, .agg ((cur j).c lv))], ?_, fun q hq => by simpa using hq⟩
            have e : memoE (M ++ [(n, p, .agg ((cur j).c lv))]) = memoE M ++ [(.agg (stC n p), .agg ((cur j).c lv))] := by simp [memoE]
            rw [e]
            simp only [mputV, hnn, hM, hf]; rfl
          · refine ⟨M.set i (n, p, .agg ((cur j).c lv)), ?_, fun q hq => List.mem_or_eq_of_mem_set hq⟩
            have e : memoE (M.set i (n, p, .agg ((cur j).c lv))) = (memoE M).set i (.agg (stC n p), .agg ((cur j).c lv)) := by simp [memoE, List.map_set]
            rw [Nat.zero_add] at hf
            rw [e]
            simp only [mputV, hnn, hM, hf]; rfl
        obtain ⟨M2, emput, hM2⟩ := hmem
        simp only [six, ChD.c] at emput
        have b3 := J.b3
        obtain ⟨X, eX⟩ : ∃ X : Option Blk, X = some (.map (memoE M2)) := ⟨_, rfl⟩
        rw [← eX] at emput
        have t9 : (H.set s.im X)[h.length + 3]? = some (some (.row ((cur j).c lv))) := by rw [List.getElem?_set_ne (by omega)]; exact j9
        have t6 : (H.set s.im X)[h.length + 1]? = some (some (.row c6)) := by rw [List.getElem?_set_ne (by omega)]; exact j6
        have t7 : ∀ R, ((H.set s.im X).set (h.length + 1) (some (.row R)))[h.length + 1]? = some (some (.row R)) := fun R => List.getElem?_set_self (by rw [List.length_set]; have := jsub.1; omega)
        simp only [go_sem, g1, b3, j5, stC_len hp, ht6, j9, ChD.c, o1.1, emput, t9, t6, c6l, t7, ↓reduceIte, Nat.reduceEqDiff, Nat.reduceAdd, Nat.reduceSub, Nat.reduceMul, Nat.reduceLT, Nat.reduceLeDiff, Int.reduceLE, Int.reduceLT, Int.reduceAdd, Int.reduceSub, Int.reduceMul, Int.reduceEq, Int.reduceBEq, Int.reduceBNe, Int.reduceNeg, Int.reduceToNat, reduceCtorEq]
        have key : ∀ R : List AV, SearchK w0 b v tv s ms h (k + 1) n p (.agg ((cur j).c lv)) ((H.set s.im X).set (h.length + 1) (some (.row R))) := fun R => by
          have hmk : msk ns ((H.set s.im X).set (h.length + 1) (some (.row R))) = msk ns H := by
            rw [msk_set (by rw [ens]; simp), msk_set J.n0]
          have hne : ∀ (i : Nat) c, i ∉ ns → H[i]? = some (some c) → ((H.set s.im X).set (h.length + 1) (some (.row R)))[i]? = some (some c) := fun i c hi e => by
            rw [List.getElem?_set_ne (fun e2 => hi (by rw [← e2, ens]; simp)), List.getElem?_set_ne (fun e2 => hi (by rw [← e2]; exact J.n0))]; exact e
          have nn := J.n1
          have K : SInv w0 b v tv s ns ((H.set s.im X).set (h.length + 1) (some (.row R))) := by
            refine ⟨hne _ _ (fun e => (nn _ e).1 rfl) J.b1, hne _ _ (fun e => (nn _ e).2.1 rfl) J.b2, hne _ _ (fun e => (nn _ e).2.2.1 rfl) J.b3, hne _ _ (fun e => (nn _ e).2.2.2.1 rfl) J.b4, hne _ _ (fun e => (nn _ e).2.2.2.2 rfl) J.b5, J.n0, nn, fun i hi => by rw [List.length_set, List.length_set]; exact J.n2 i hi, by rw [hmk]; exact J.hR, by rw [hmk]; exact J.hT, M2, ?_, fun n' p' x hx => ?_⟩
            · rw [List.getElem?_set_ne (by omega), List.getElem?_set_self hltH, eX]
            · rw [hmk]
              rcases hM2 _ hx with h1 | h1
              · exact hMok _ _ _ h1
              · cases h1
                refine ⟨by omega, hp, hpb, lv, ?_, ?_⟩
                · rw [show b.days.length - n = k + 1 by omega, ← hfinal]
                · rw [show b.days.length - n = k + 1 by omega, ← hfinal]; exact jl
          refine ⟨K.less hns I.n0, by rw [List.length_set, List.length_set]; have := jsub.1; omega, fun i c h1 h2 => ?_, lv, by rw [hfinal], ?_⟩
          · rw [List.getElem?_set_ne (by have := get_lt h2; omega), List.getElem?_set_ne (Ne.symm h1)]; exact jsub.2 i c h1 h2
          · rw [← hfinal]
            have := Sl.sub jl (hsub_less (A := H) hns)
            refine Sl.sub jl ?_
            rw [← hmk]; exact hsub_less hns
        exact key _
    · have elook : ∀ L, lookV (h ++ L) six (.agg [.int .i64 0, .int .i64 0, .nilS, .bool false]) true (.map s.im) (.agg (stC n p)) = some (.tup [x, .bool true]) := fun L => by
        simp only [lookV, hnn, b6, hf]; rfl
      obtain ⟨_, _, _, lv, rfl, h5⟩ := hMok n p x (List.mem_of_getElem? hj)
      have o5 := Sl.one h5
      rw [show b.days.length - n = k + 1 by omega] at elook h5
      simp only [six] at elook
      simp only [go_sem, mf76, SB.args, stC_one, stC_len hp, stC_0, b1, b3, l1, l2, e1, ht6, elook, ChD.c, o5.1, ↓reduceIte, Nat.reduceEqDiff, Nat.reduceAdd, Nat.reduceSub, Nat.reduceMul, Nat.reduceLT, Nat.reduceLeDiff, Int.reduceLE, Int.reduceLT, Int.reduceAdd, Int.reduceSub, Int.reduceMul, Int.reduceEq, Int.reduceBEq, Int.reduceBNe, Int.reduceNeg, Int.reduceToNat, reduceCtorEq]
      exact ⟨I.app _, by simp, fun i c _ e => getElem?_app_left e, lv, rfl, Sl.sub h5 hsub_mapp⟩
end Go.Proofs.Ab

namespace Go.Proofs.Ab
open Go Go.Proofs
variable {w0 : World} {h : Heap}
attribute [local irreducible] ACall ACallV AYield DCall DCallV rvC rdC lp rg dr ex un rv rd'

def planG (b : BayD) : Nat → Nat → List Int → List (List Int)
  | 0, _, _ => []
  | k + 1, n, p => (searchD b (k + 1) n p).list :: planG b k (n + 1) (putD n p ((searchD b (k + 1) n p).list.map Int.toNat))
def planD (b : BayD) : List (List Int) := planG b b.days.length 0 [-1, -1, -1, -1, -1]
def PlanK (w0 : World) (h : Heap) (b : BayD) (v : AV) (h' : Heap) : Prop :=
  HSub h h' ∧ if bayB b then (if (searchD b b.days.length 0 [-1, -1, -1, -1, -1]).ok then ∃ x, v = .tup [x, .int .i64 0] ∧ LL w0 h' x (planD b) else v = .tup [.nilS, .int .i64 5]) else v = .tup [.nilS, .int .i64 2]

theorem listedD_bd {bits : Nat} : ∀ x ∈ listedD bits, 0 ≤ x ∧ x < 5 := fun x hx => by
  simp only [listedD, bitsL, List.mem_map, List.mem_filter, List.mem_range] at hx
  obtain ⟨y, ⟨hy, _⟩, rfl⟩ := hx
  simp only [Int.ofNat_eq_natCast]; omega
theorem foldS_bd {b : BayD} {next : List Int → ChD} {n : Nat} {p : List Int} (l : List Nat) : ∀ {cur : ChD}, (∀ x ∈ cur.list, 0 ≤ x ∧ x < 5) → ∀ x ∈ (l.foldl (stepS b next n p) cur).list, 0 ≤ x ∧ x < 5 := by
  induction l with
  | nil => exact fun h => h
  | cons a l ih =>
    intro cur h
    refine ih (cur := stepS b next n p cur a) ?_
    unfold stepS
    split
    · split
      · exact listedD_bd
      · exact h
    · exact h
theorem searchD_bd (b : BayD) (k n : Nat) (p : List Int) : ∀ x ∈ (searchD b k n p).list, 0 ≤ x ∧ x < 5 := by
  cases k with
  | zero => intro x hx; simp [searchD] at hx
  | succ k => exact foldS_bd _ (by simp)

theorem Plan_c (b : BayD) (v : BayV) (hR : BayR w0 h b v) : ACall Try.prog w0 32 [.agg (bayC b v)] h (PlanK w0 h b) := by
  refine ACall_sx hmix mf32_ok mf32_b mf32_g (Nat.le_of_ble_eq_true rfl) fun hb ha => ex_in ?_
  have o1 := hR.kinds.one
  have o2 := hR.slots.one
  have o3 := hR.days.one
  have o4 := hR.nights.one
  have o5 := hR.defs.one
  have l2 := hR.days.use.1
  simp only [List.length_map] at l2
  simp only [go_sem, mf32, o1.1, o2.1, o3.1, o4.1, o5.1, ↓reduceIte, Nat.reduceEqDiff, Nat.reduceAdd, Nat.reduceSub, Nat.reduceMul, Nat.reduceLT, Nat.reduceLeDiff, Int.reduceLE, Int.reduceLT, Int.reduceAdd, Int.reduceSub, Int.reduceMul, Int.reduceEq, Int.reduceBEq, Int.reduceBNe, Int.reduceNeg, Int.reduceToNat, reduceCtorEq]
  refine rvC_use (bay_c b v hR.app).v ?_
  simp only [go_sem, o1.1, o2.1, o3.1, o4.1, o5.1, ↓reduceIte, Nat.reduceEqDiff, Nat.reduceAdd, Nat.reduceSub, Nat.reduceMul, Nat.reduceLT, Nat.reduceLeDiff, Int.reduceLE, Int.reduceLT, Int.reduceAdd, Int.reduceSub, Int.reduceMul, Int.reduceEq, Int.reduceBEq, Int.reduceBNe, Int.reduceNeg, Int.reduceToNat, reduceCtorEq]
  refine ⟨fun e1 => ⟨HSub.refl.app, by simp [e1]⟩, fun e1 => ?_⟩
  have bs := bayB_spec e1
  have hu := until_c (w0 := w0) (h := h ++ [some (.row (bayC b v)), some (.row (bayC b v))]) b v (i := h.length + 1) (by rw [List.getElem?_append_right (by omega), Nat.add_sub_cancel_left]; rfl) hR.app e1
  refine rvC_use hu.v ?_
  simp only [go_sem, l2, ↓reduceIte, Nat.reduceEqDiff, Nat.reduceAdd, Nat.reduceSub, Nat.reduceMul, Nat.reduceLT, Nat.reduceLeDiff, Int.reduceLE, Int.reduceLT, Int.reduceAdd, Int.reduceSub, Int.reduceMul, Int.reduceEq, Int.reduceBEq, Int.reduceBNe, Int.reduceNeg, Int.reduceToNat, reduceCtorEq]
  refine rvC_use first_c.v ?_
  simp only [go_sem, ints_one, ints_len, List.append_nil, ↓reduceIte, Nat.reduceEqDiff, Nat.reduceAdd, Nat.reduceSub, Nat.reduceMul, Nat.reduceLT, Nat.reduceLeDiff, Int.reduceLE, Int.reduceLT, Int.reduceAdd, Int.reduceSub, Int.reduceMul, Int.reduceEq, Int.reduceBEq, Int.reduceBNe, Int.reduceNeg, Int.reduceToNat, reduceCtorEq]
  obtain ⟨u, eu⟩ : ∃ u, u = (List.map (fun l => some (Blk.row (ints l))) (untilT b)).length := ⟨_, rfl⟩
  have hT := until_LL (w0 := w0) (h := h ++ [some (.row (bayC b v)), some (.row (bayC b v))]) b e1
  rw [← eu]
  obtain ⟨s, es⟩ : ∃ s : SB, s = ⟨h.length, h.length + (u + 3), h.length + (u + 5), h.length + (u + 6), h.length + (u + 7), h.length + (u + 4)⟩ := ⟨_, rfl⟩
  obtain ⟨H0, eH0⟩ : ∃ H0 : Heap, H0 = h ++ ([some (.row (bayC b v)), some (.row (bayC b v))] ++ ((untilT b).map (fun l => some (.row (ints l))) ++ [some (.row (outS (h.length + 2) b.slots.length (b.days.length + 1))),
    some (.row [.sl (.own (h.length + (2 + b.slots.length)) 0) b.slots.length 1 false]), some (.map []), some (.row [.map s.im]), some (.row [.fn (.func 74) [] [.ptr (.own s.ib 0), .ptr (.own s.it 0)]]), some (.row [.fn (.func 76) [] s.args]), some (.row (stC 0 [-1, -1, -1, -1, -1]))])) := ⟨_, rfl⟩
  have ht5 : (ints [-1, -1, -1, -1, -1]).take 5 = ints [-1, -1, -1, -1, -1] := rfl
  have hst : AV.int .i64 0 :: ints [-1, -1, -1, -1, -1] = stC 0 [-1, -1, -1, -1, -1] := rfl
  rw [ht5, hst]
  have hget : ∀ i, H0[h.length + (u + (2 + i))]? = ([some (.row (outS (h.length + 2) b.slots.length (b.days.length + 1))),
    some (.row [.sl (.own (h.length + (2 + b.slots.length)) 0) b.slots.length 1 false]), some (.map []), some (.row [.map s.im]), some (.row [.fn (.func 74) [] [.ptr (.own s.ib 0), .ptr (.own s.it 0)]]), some (.row [.fn (.func 76) [] s.args]), some (.row (stC 0 [-1, -1, -1, -1, -1]))] : Heap)[i]? := fun i => by
    rw [eH0, List.getElem?_append_right (by omega), Nat.add_sub_cancel_left, List.getElem?_append_right (by simp; omega), List.getElem?_append_right (by rw [← eu]; simp; omega), ← eu]
    congr 1
    simp; omega
  have hl0 : H0.length = h.length + (u + 9) := by rw [eH0, eu]; simp
  have hg0 : H0[h.length]? = some (some (.row (bayC b v))) := by rw [eH0, List.getElem?_append_right (by omega)]; simp
  have hsub0 : HSub (h ++ ([some (.row (bayC b v)), some (.row (bayC b v))] ++ ((untilT b).map (fun l => some (.row (ints l))) ++ [some (.row (outS (h.length + 2) b.slots.length (b.days.length + 1)))]))) (msk [h.length + (u + 8), h.length + (u + 4)] H0) := by
    have hL : H0 = (h ++ ([some (.row (bayC b v)), some (.row (bayC b v))] ++ ((untilT b).map (fun l => some (.row (ints l))) ++ [some (.row (outS (h.length + 2) b.slots.length (b.days.length + 1)))]))) ++ [some (.row [.sl (.own (h.length + (2 + b.slots.length)) 0) b.slots.length 1 false]), some (.map []), some (.row [.map s.im]), some (.row [.fn (.func 74) [] [.ptr (.own s.ib 0), .ptr (.own s.it 0)]]), some (.row [.fn (.func 76) [] s.args]), some (.row (stC 0 [-1, -1, -1, -1, -1]))] := by rw [eH0]; simp
    have hll : (h ++ ([some (Blk.row (bayC b v)), some (Blk.row (bayC b v))] ++ ((untilT b).map (fun l => some (Blk.row (ints l))) ++ [some (Blk.row (outS (h.length + 2) b.slots.length (b.days.length + 1)))]))).length = h.length + (u + 3) := by rw [eu]; simp
    refine ⟨by rw [msk_len, hll, hl0]; omega, fun i c e => ?_⟩
    have hi := get_lt e
    rw [hll] at hi
    rw [msk_out (by simp; omega), hL]
    exact getElem?_app_left e
  have I0 : SInv w0 b v (.sl (.own (h.length + (2 + b.slots.length)) 0) b.slots.length 1 false) s [h.length + (u + 8), h.length + (u + 4)] H0 := by
    refine ⟨by rw [es]; exact hg0, by rw [es]; have := hget 1; simpa using this, by have := hget 3; rw [es] at this ⊢; simpa using this, by have := hget 4; rw [es] at this ⊢; simpa using this, by have := hget 5; rw [es] at this ⊢; simpa using this, by rw [es]; simp, ?_, ?_, ?_, ?_, ?_⟩
    · rw [es]; simp
    · rw [hl0]; simp
    · exact hR.app.sub hsub0
    · rw [List.append_assoc] at hT
      simp only [List.length_append, List.length_cons, List.length_nil] at hT
      have hT2 := hT.sub hsub0
      rw [Nat.add_assoc] at hT2
      exact hT2
    · exact ⟨[], by have := hget 2; rw [es]; simpa [memoE] using this, fun n p x hx => by cases hx⟩
  refine Eq.subst (motive := fun X => rvC _ _ _ _ _ _ _ _ _ _ _ _ X) (a := H0) (by rw [eH0, es]) ?_
  have hsa : s.args = [.ptr (.own h.length 0), .ptr (.own (h.length + (u + 5)) 0), .ptr (.own (h.length + (u + 6)) 0), .ptr (.own (h.length + (u + 7)) 0)] := by rw [es]; rfl
  have hbd : ∀ y ∈ ([-1, -1, -1, -1, -1] : List Int), -1 ≤ y ∧ y < ((0 : Nat) : Int) := by simp
  have hsc := search_c (w0 := w0) b v _ s e1 b.days.length 0 [-1, -1, -1, -1, -1] H0 _ (by omega) rfl hbd I0
  rw [hsa] at hsc
  refine rvC_post (ACall.vc (first := []) (args := [.agg (stC 0 [-1, -1, -1, -1, -1])]) hsc) ?_
  rintro y H1 ⟨J1, len1, sub1, lv, rfl, sl1⟩
  have o6 := Sl.one sl1
  simp only [go_sem, ChD.c, o6.1, ↓reduceIte, Nat.reduceEqDiff, Nat.reduceAdd, Nat.reduceSub, Nat.reduceMul, Nat.reduceLT, Nat.reduceLeDiff, Int.reduceLE, Int.reduceLT, Int.reduceAdd, Int.reduceSub, Int.reduceMul, Int.reduceEq, Int.reduceBEq, Int.reduceBNe, Int.reduceNeg, Int.reduceToNat, reduceCtorEq]
  have hs0 : HSub h H0 := by rw [eH0]; exact HSub.refl.app
  have hs1 : HSub h H1 := ⟨Nat.le_trans hs0.1 len1, fun i c e => sub1 i c (by have := get_lt e; rw [es]; simp only; omega) (hs0.2 i c e)⟩
  refine ⟨fun eo => ?_, fun eo => ?_⟩
  · exact ⟨hs1, by rw [if_pos e1, if_neg (by rw [eo]; simp)]⟩
  · obtain ⟨tv, etv⟩ : ∃ tv, tv = AV.sl (.own (h.length + (2 + b.slots.length)) 0) b.slots.length 1 false := ⟨_, rfl⟩
    rw [← etv] at J1
    have hi9 : s.im ≠ h.length + (u + 8) := by rw [es]; simp only; omega
    have hr9 : H1[h.length + (u + 8)]? = some (some (.row (stC 0 [-1, -1, -1, -1, -1]))) := sub1 _ _ (Ne.symm hi9) (by have := hget 6; simpa using this)
    refine lp_ind (S := Nat × List Int × Heap × AV × List Nat × Nat × List AV) (F := fun t => [(1, .ptr (.own h.length 0)), (8, .ptr (.own (h.length + (u + 7)) 0)), (9, .ptr (.own (h.length + (u + 8)) 0)), (10, t.2.2.2.1)])
      (H := fun t => t.2.2.1) (meas := fun t => b.days.length - t.1)
      (Inv := fun t => t.1 ≤ b.days.length ∧ t.2.1.length = 5 ∧ (∀ y ∈ t.2.1, -1 ≤ y ∧ y < (t.1 : Int)) ∧ HSub h t.2.2.1 ∧ SInv w0 b v tv s t.2.2.2.2.1 t.2.2.1 ∧ h.length + (u + 8) ∈ t.2.2.2.2.1 ∧
        t.2.2.1[h.length + (u + 8)]? = some (some (.row (stC t.1 t.2.1))) ∧ t.2.2.2.2.2.2.length = t.1 ∧
        (t.1 = 0 ∧ t.2.2.2.1 = .nilS ∨ t.2.2.2.1 = .sl (.own t.2.2.2.2.2.1 0) t.1 1 false ∧ t.2.2.2.2.2.1 ∈ t.2.2.2.2.1 ∧ t.2.2.2.2.2.1 ≠ s.im ∧ t.2.2.2.2.2.1 ≠ h.length + (u + 8) ∧ h.length ≤ t.2.2.2.2.2.1 ∧ t.2.2.1[t.2.2.2.2.2.1]? = some (some (.row t.2.2.2.2.2.2))) ∧
        ∃ done : List (List Int), done.length = t.1 ∧ done ++ planG b (b.days.length - t.1) t.1 t.2.1 = planD b ∧ ∀ (j : Nat) x l, t.2.2.2.2.2.2[j]? = some x → done[j]? = some l → SlI w0 (msk t.2.2.2.2.1 t.2.2.1) x l)
      (0, [-1, -1, -1, -1, -1], H1, .nilS, [h.length + (u + 8), h.length + (u + 4)], 0, []) ⟨Nat.zero_le _, rfl, hbd, hs1, J1, by simp, hr9, rfl, .inl ⟨rfl, rfl⟩, [], rfl, rfl, fun j x l e => by simp at e⟩ rfl rfl ?_
    rintro ⟨n, p, H, ov, ms, io, vs⟩ ⟨hn, hp, hpb, hsb, J, h9, g9, hvl, hov, done, hdl, hdn, hvs⟩ ih
    simp only at hn hp hpb hsb J h9 g9 hvl hov hdl hdn hvs ih
    refine lp_step hmix L32_1_g [1, 8, 9, 10] L32_1.eq_1 ?_
    have f1 := J.b1
    have f5 := J.b5
    have l2 := (J.hR.sub hsub_un).days.use.1
    simp only [List.length_map] at l2
    have hib : s.ib = h.length := by rw [es]
    have hisb : s.isb = h.length + (u + 7) := by rw [es]
    rw [hib] at f1
    rw [hisb] at f5
    by_cases hnn : n < b.days.length
    · have m1 : (n : Int) < b.days.length := by omega
      have ht6 := stC_take (n := n) hp
      simp only [go_sem, g9, stC_0, f1, l2, m1, f5, stC_len hp, ht6, ↓reduceIte, Nat.reduceEqDiff, Nat.reduceAdd, Nat.reduceSub, Nat.reduceMul, Nat.reduceLT, Nat.reduceLeDiff, Int.reduceLE, Int.reduceLT, Int.reduceAdd, Int.reduceSub, Int.reduceMul, Int.reduceEq, Int.reduceBEq, Int.reduceBNe, Int.reduceNeg, Int.reduceToNat, reduceCtorEq]
      obtain ⟨k, hk⟩ : ∃ k, b.days.length - n = k + 1 := ⟨b.days.length - n - 1, by omega⟩
      have hsc2 := search_c (w0 := w0) b v _ s e1 (k + 1) n p H ms (by omega) hp hpb J
      refine rvC_post (ACall.vc (first := []) (args := [.agg (stC n p)]) hsc2) ?_
      rintro y H2 ⟨J2, len2, sub2, lv2, rfl, sl2⟩
      have o7 := Sl.one sl2
      have happ : ∃ (A : Heap), appA w0 (H2 ++ [some (.row [lv2])]) 1 24 ov (.sl (.own H2.length 0) 1 1 true) = some (.sl (.own (H2.length + 1) 0) (n + 1) 1 false, A ++ [some (.row [lv2]), some (.row (vs ++ [lv2]))]) ∧ A.length = H2.length ∧
          ∀ (i : Nat) c, (i ∉ ms ∨ i = h.length + (u + 8) ∨ i = s.im ∨ i < h.length) → H2[i]? = some (some c) → A[i]? = some (some c) := by
        rcases hov with ⟨h1, h2⟩ | ⟨h1, h2, h3, h4, h5, h6⟩
        · subst h1
          have hv0 : vs = [] := List.eq_nil_of_length_eq_zero hvl
          have := app_nil (w0 := w0) (h := H2) (es := 1) (b := 24) (x := [lv2]) (L := [some (.row [lv2])]) 0 true rfl rfl (by simp [o7.1]) (by omega)
          refine ⟨H2, by rw [h2, hv0]; simpa using this, rfl, fun i c _ e => e⟩
        · have hio := sub2 _ _ h3 h6
          have hlio := get_lt hio
          have r1 : rdn w0 (H2 ++ [some (.row [lv2])]) (.own H2.length 0) (1 * 1) = some [lv2] := by
            simp [rdn]
          have r2 : rdn w0 (H2 ++ [some (.row [lv2])]) (.own io 0) (n * 1) = some vs := by
            simp only [rdn]
            rw [List.getElem?_append_left hlio, hio]
            simp [hvl]
            rw [← hvl]; simp
          have hsz : (n + 1) * (24 + 1) ≤ 2 ^ 40 := Nat.le_trans (Nat.mul_le_mul (show n + 1 ≤ 1000001 by omega) (Nat.le_refl 25)) (by decide)
          refine ⟨H2.set io none, ?_, by simp, fun i c hi e => ?_⟩
          · rw [h1]
            simp only [appA, srcOf, esOk_s, if_true, r1, Option.map_some, Option.bind_some]
            rw [if_neg (by omega), if_pos ⟨trivial, hsz, by simp [o7.1]⟩]
            simp only [Bool.false_eq_true, if_false, r2, Option.bind_some]
            rw [List.set_append_left _ _ hlio]
            simp
          · have hne : io ≠ i := by
              rcases hi with hi | hi | hi | hi
              · exact fun e2 => hi (e2 ▸ h2)
              · exact fun e2 => h4 (e2.trans hi)
              · exact fun e2 => h3 (e2.trans hi)
              · omega
            rw [List.getElem?_set_ne hne]; exact e
      obtain ⟨A, eapp, hAl, hAo⟩ := happ
      obtain ⟨io2, hio2⟩ : ∃ io2, io2 = H2.length + 1 := ⟨_, rfl⟩
      rw [← hio2] at eapp
      obtain ⟨G, eG⟩ : ∃ G, G = A ++ [some (Blk.row [lv2]), some (Blk.row (vs ++ [lv2]))] := ⟨_, rfl⟩
      rw [← eG] at eapp
      have hGl : G.length = H2.length + 2 := by rw [eG]; simp [hAl]
      have hG2 : G[io2]? = some (some (.row (vs ++ [lv2]))) := by rw [eG, List.getElem?_append_right (by omega), hio2, hAl]; simp
      have hGo : ∀ (i : Nat) c, (i ∉ ms ∨ i = h.length + (u + 8) ∨ i = s.im ∨ i < h.length) → H2[i]? = some (some c) → G[i]? = some (some c) := fun i c hi e => by rw [eG]; exact getElem?_app_left (hAo i c hi e)
      have lc := (SlI.use sl2).1
      simp only [go_sem, ChD.c, o7.1, o7.2, eapp, lc, ↓reduceIte, Nat.reduceEqDiff, Nat.reduceAdd, Nat.reduceSub, Nat.reduceMul, Nat.reduceLT, Nat.reduceLeDiff, Int.reduceLE, Int.reduceLT, Int.reduceAdd, Int.reduceSub, Int.reduceMul, Int.reduceEq, Int.reduceBEq, Int.reduceBNe, Int.reduceNeg, Int.reduceToNat, reduceCtorEq]
      have hbd5 := searchD_bd b (k + 1) n p
      obtain ⟨l, el⟩ : ∃ l, l = (searchD b (k + 1) n p).list := ⟨_, rfl⟩
      rw [← el] at sl2 lc hbd5 ⊢
      have hll := (searchD_ok b (k + 1) n p).2.2.2.2
      rw [← el] at hll
      have gst : G[h.length + (u + 8)]? = some (some (.row (stC n p))) := hGo _ _ (.inr (.inl rfl)) (sub2 _ _ (Ne.symm hi9) g9)
      have hmG : HSub (msk ms H2) (msk ms G) := hsub_msks (by omega) fun i c hi e => hGo i c (.inl hi) e
      have slG : SlI w0 (msk ms G) lv2 l := Sl.sub sl2 hmG
      obtain ⟨_, cq, cix, crd⟩ := SlI.use slG
      obtain ⟨c, ec⟩ : ∃ c, c = l.map Int.toNat := ⟨_, rfl⟩
      have hcl : c.length = l.length := by rw [ec, List.length_map]
      have hcs : ∀ i (hi : i < c.length), ∃ hi' : i < l.length, l[i] = (c[i] : Int) ∧ c[i] < 5 := fun i hi => by
        have hi' : i < l.length := by omega
        have := hbd5 l[i] (List.getElem_mem hi')
        refine ⟨hi', ?_, ?_⟩ <;> simp only [ec, List.getElem_map] <;> omega
      have hi9G := get_lt gst
      refine lp_for (S := Unit) (fun i _ => [(1, .ptr (.own h.length 0)), (8, .ptr (.own (h.length + (u + 7)) 0)), (9, .ptr (.own (h.length + (u + 8)) 0)), (10, .sl (.own io2 0) (n + 1) 1 false), (46, lv2), (47, .int .i64 l.length), (48, .int .i64 i)])
        (fun i _ => G.set (h.length + (u + 8)) (some (.row (stC n (putD n p (c.take i)))))) (fun _ _ => True) l.length () trivial rfl ?_ (fun i _ hil _ ih2 => ?_) (fun _ _ => ?_)
      · simp only [List.take_zero, putD, List.foldl_nil]
        refine (List.ext_getElem? fun q => ?_)
        by_cases hq : h.length + (u + 8) = q
        · subst hq; rw [List.getElem?_set_self hi9G, gst]
        · rw [List.getElem?_set_ne hq]
      · refine lp_step hmix L32_0_g [1, 8, 9, 10, 46, 47, 48] L32_0.eq_1 ?_
        have m1 : (i : Int) < l.length := by omega
        have m2 := cix i hil
        obtain ⟨_, m4, m5⟩ := hcs i (by omega)
        obtain ⟨P, eP⟩ : ∃ P, P = putD n p (c.take i) := ⟨_, rfl⟩
        have hP5 : P.length = 5 := by rw [eP, putD_len, hp]
        have ih2 := ih2 () trivial
        rw [take_succ' (show i < c.length by omega), putD_snoc, ← eP] at ih2
        rw [← eP]
        obtain ⟨G1, eG1⟩ : ∃ G1, G1 = G.set (h.length + (u + 8)) (some (.row (stC n P))) := ⟨_, rfl⟩
        have g1 : G1[h.length + (u + 8)]? = some (some (.row (stC n P))) := by rw [eG1, List.getElem?_set_self hi9G]
        have m3 : rd w0 G1 (cq.add i) = some (.int .i64 c[i]) := by
          have h1 := crd i hil []
          rw [List.append_nil, m4] at h1
          refine HSub.rd ?_ h1
          have := hsub_un (ms := ms) (A := G1)
          rwa [eG1, msk_set h9, ← eG1] at this
        rw [← eG1]
        simp only [go_sem, m1, m2, m3, g1, stC_0, stC_len hP5, Nat.mul_one, ↓reduceIte, Nat.reduceEqDiff, Nat.reduceAdd, Nat.reduceSub, Nat.reduceMul, Nat.reduceLT, Nat.reduceLeDiff, Int.reduceLE, Int.reduceLT, Int.reduceAdd, Int.reduceSub, Int.reduceMul, Int.reduceEq, Int.reduceBEq, Int.reduceBNe, Int.reduceNeg, Int.reduceToNat, reduceCtorEq]
        rw [stC_set hP5 m5, eG1, List.set_set]
        exact ⟨m5, by omega, (by unfold I64; omega), ih2⟩
      · refine lp_step hmix L32_0_g [1, 8, 9, 10, 46, 47, 48] L32_0.eq_1 ?_
        have m1 : ¬ (l.length : Int) < l.length := by omega
        rw [← hcl, List.take_of_length_le (Nat.le_refl _), hcl]
        obtain ⟨P, eP⟩ : ∃ P, P = putD n p c := ⟨_, rfl⟩
        have hP5 : P.length = 5 := by rw [eP, putD_len, hp]
        rw [← eP]
        obtain ⟨G1, eG1⟩ : ∃ G1, G1 = G.set (h.length + (u + 8)) (some (.row (stC n P))) := ⟨_, rfl⟩
        have g1 : G1[h.length + (u + 8)]? = some (some (.row (stC n P))) := by rw [eG1, List.getElem?_set_self hi9G]
        rw [← eG1]
        simp only [go_sem, m1, g1, stC_0, stC_len hP5, Nat.mul_one, ↓reduceIte, Nat.reduceEqDiff, Nat.reduceAdd, Nat.reduceSub, Nat.reduceMul, Nat.reduceLT, Nat.reduceLeDiff, Int.reduceLE, Int.reduceLT, Int.reduceAdd, Int.reduceSub, Int.reduceMul, Int.reduceEq, Int.reduceBEq, Int.reduceBNe, Int.reduceNeg, Int.reduceToNat, reduceCtorEq]
        have hst2 : AV.int .i64 ((n : Int) + 1) :: (stC n P).drop 1 = stC (n + 1) P := rfl
        rw [hst2, eG1, List.set_set]
        have hmem9 : h.length + (u + 8) ∈ io2 :: ms := List.mem_cons_of_mem _ h9
        have hsub2 : HSub (msk ms H) (msk ms H2) := hsub_msks len2 fun i c hi e => sub2 i c (fun x => hi (x ▸ J.n0)) e
        have hsubA : HSub (msk ms H2) (msk ms A) := hsub_msks (by omega) fun i c hi e => hAo i c (.inl hi) e
        have JA : SInv w0 b v tv s ms A := J2.mono (by omega) (fun i c hi e => hAo i c (.inl hi) e) (by
          obtain ⟨M, hM, _⟩ := J2.memo
          rw [hM]; exact hAo _ _ (.inr (.inr (.inl rfl))) hM)
        have JG : SInv w0 b v tv s (io2 :: ms) G := by
          rw [eG]; exact JA.more (ks := [io2]) (by simp; omega)
        have hsubG : HSub (msk ms A) (msk (io2 :: ms) G) := by
          refine ⟨by rw [msk_len, msk_len]; omega, fun c q e => ?_⟩
          have hc : c < A.length := by have := get_lt e; rwa [msk_len] at this
          have hcm : c ∉ ms := fun x => by rw [msk_in x hc] at e; cases e
          rw [msk_out hcm] at e
          rw [msk_out (by simp only [List.mem_cons, not_or]; exact ⟨by omega, hcm⟩), eG]
          exact getElem?_app_left e
        have hsubF : HSub (msk ms H2) (msk (io2 :: ms) (G.set (h.length + (u + 8)) (some (.row (stC (n + 1) P))))) := by
          rw [msk_set hmem9]; exact hsubA.trans hsubG
        have hl := J2.lt
        have hlim := J2.n2 _ h9
        refine ⟨(by unfold I64; omega), ih (n + 1, P, G.set (h.length + (u + 8)) (some (.row (stC (n + 1) P))), .sl (.own io2 0) (n + 1) 1 false, io2 :: ms, io2, vs ++ [lv2]) ⟨hnn, hP5, ?_, ?_, JG.set hmem9 (Ne.symm hi9), hmem9, List.getElem?_set_self hi9G, by simp [hvl],
          .inr ⟨rfl, List.mem_cons_self, by simp only; omega, by simp only; omega, ?_, ?_⟩, done ++ [l], by simp [hdl], ?_, ?_⟩ (by simp only; omega)⟩
        · rw [eP]; exact putD_bd hpb
        · have hlh : h.length ≤ H2.length := Nat.le_trans hsb.1 len2
          refine ⟨by simp only [List.length_set]; omega, fun i c e => ?_⟩
          have hi := get_lt e
          simp only
          rw [List.getElem?_set_ne (by omega)]
          exact hGo i c (.inr (.inr (.inr hi))) (sub2 i c (by rw [es]; simp only; omega) (hsb.2 i c e))
        · have := hsb.1; simp only; omega
        · simp only; rw [List.getElem?_set_ne (by omega)]; exact hG2
        · simp only
          rw [← hdn, hk, show b.days.length - (n + 1) = k by omega, List.append_assoc]
          simp only [planG, ← el, ← ec, ← eP]; rfl
        · intro j x l' hx hl'
          simp only at hx hl' ⊢
          by_cases hj : j < n
          · rw [List.getElem?_append_left (by omega)] at hx hl'
            exact Sl.sub (hvs j x l' hx hl') (hsub2.trans hsubF)
          · have hx2 := get_some_lt hx
            have hjn : j = n := by simp [hvl] at hx2; omega
            rw [List.getElem?_append_right (by omega)] at hx hl'
            simp [hjn, hvl, hdl] at hx hl'
            subst hx; subst hl'
            exact Sl.sub sl2 hsubF
    · have m1 : ¬ (n : Int) < b.days.length := by omega
      simp only [go_sem, g9, stC_0, f1, l2, m1, ↓reduceIte, Nat.reduceEqDiff, Nat.reduceAdd, Nat.reduceSub, Nat.reduceMul, Nat.reduceLT, Nat.reduceLeDiff, Int.reduceLE, Int.reduceLT, Int.reduceAdd, Int.reduceSub, Int.reduceMul, Int.reduceEq, Int.reduceBEq, Int.reduceBNe, Int.reduceNeg, Int.reduceToNat, reduceCtorEq]
      have hnd : n = b.days.length := by omega
      refine ⟨hsb, ?_⟩
      rw [if_pos e1, if_pos eo]
      refine ⟨ov, rfl, vs, ?_, ?_, ?_⟩
      · rw [← hdn, hnd]; simp [planG, hvl, hdl, hnd]
      · rcases hov with ⟨h1, _⟩ | ⟨h1, h2, h3, h4, h5, h6⟩
        · omega
        · refine .inr ⟨.own io 0, false, ⟨1, by rw [h1, List.length_map, hvl], esOk_s⟩, by simp only [Pl.bdd]; exact get_lt h6, fun j c hc => ?_⟩
          simp only [List.getElem?_map, Option.map_eq_some_iff] at hc
          obtain ⟨x, hx, rfl⟩ := hc
          have hj := get_some_lt hx
          simp only [Pl.add, rdn, h6]
          rw [if_pos (by omega), List.drop_eq_getElem_cons (by omega)]
          simp only [List.take_succ_cons, List.take_zero]
          have : vs[0 + j * 1]'(by omega) = x := by
            have := List.getElem?_eq_getElem hj
            rw [this] at hx; cases hx
            congr 1; omega
          rw [this]
      · intro j x l hx hl
        refine Sl.sub (hvs j x l hx ?_) hsub_un
        rw [← hdn, hnd] at hl
        simpa [planG] using hl
end Go.Proofs.Ab

namespace Go.Proofs.Ab
open Go Go.Proofs
variable {w0 : World} {h : Heap}
attribute [local irreducible] ACall ACallV AYield DCall DCallV rvC rdC lp rg dr ex un rv rd'

theorem rin_c (x lo hi : Int) : DCall Try.prog w0 58 [.int .i64 x, .int .i64 lo, .int .i64 hi] h (.bool (inB x lo hi)) h := by
  refine DCall_quiet hmix mf58_ok mf58_b mf58_g (Nat.le_of_ble_eq_true rfl) (by simp [AV.bdd, AV.bdds]) fun hb ha => ex_in ?_
  simp only [go_sem, mf58, ↓reduceIte, Nat.reduceEqDiff, Nat.reduceAdd, Nat.reduceSub, Nat.reduceMul, Nat.reduceLT, Nat.reduceLeDiff, Int.reduceLE, Int.reduceLT, Int.reduceAdd, Int.reduceSub, Int.reduceMul, Int.reduceEq, Int.reduceBEq, Int.reduceBNe, Int.reduceNeg, Int.reduceToNat, reduceCtorEq]
  exact ⟨fun a => by simp [inB, a], fun a => by simp [inB, a]⟩
theorem rspan_c (s : Span) (hi : Int) : DCall Try.prog w0 59 [.agg s.c, .int .i64 hi] h (.bool (spanB s 0 hi)) h := by
  refine DCall_quiet hmix mf59_ok mf59_b mf59_g (Nat.le_of_ble_eq_true rfl) (by simp [AV.bdd, AV.bdds]) fun hb ha => ex_in ?_
  simp only [go_sem, mf59, ↓reduceIte, Nat.reduceEqDiff, Nat.reduceAdd, Nat.reduceSub, Nat.reduceMul, Nat.reduceLT, Nat.reduceLeDiff, Int.reduceLE, Int.reduceLT, Int.reduceAdd, Int.reduceSub, Int.reduceMul, Int.reduceEq, Int.reduceBEq, Int.reduceBNe, Int.reduceNeg, Int.reduceToNat, reduceCtorEq]
  refine ⟨fun a => ⟨fun b => ?_, fun b => ?_⟩, fun a => ?_⟩ <;> simp_all [spanB] <;> omega
theorem rkind_c (k : KindD) : DCall Try.prog w0 14 [.agg k.c] h (.bool (kindB k)) h := by
  refine DCall_quiet hmix mf14_ok mf14_b mf14_g (Nat.le_of_ble_eq_true rfl) (by simp [AV.bdd, AV.bdds]) fun hb ha => ex_in ?_
  simp only [go_sem, mf14, ↓reduceIte, Nat.reduceEqDiff, Nat.reduceAdd, Nat.reduceSub, Nat.reduceMul, Nat.reduceLT, Nat.reduceLeDiff, Int.reduceLE, Int.reduceLT, Int.reduceAdd, Int.reduceSub, Int.reduceMul, Int.reduceEq, Int.reduceBEq, Int.reduceBNe, Int.reduceNeg, Int.reduceToNat, reduceCtorEq]
  repeat' first | (refine rvC_use (rin_c _ _ _).v ?_; simp only [go_sem, ↓reduceIte, Nat.reduceEqDiff, Nat.reduceAdd, Nat.reduceSub, Nat.reduceMul, Nat.reduceLT, Nat.reduceLeDiff, Int.reduceLE, Int.reduceLT, Int.reduceAdd, Int.reduceSub, Int.reduceMul, Int.reduceEq, Int.reduceBEq, Int.reduceBNe, Int.reduceNeg, Int.reduceToNat, reduceCtorEq]) | (refine rdC_q (rin_c _ _ _).v ?_; simp only [go_sem, ↓reduceIte, Nat.reduceEqDiff, Nat.reduceAdd, Nat.reduceSub, Nat.reduceMul, Nat.reduceLT, Nat.reduceLeDiff, Int.reduceLE, Int.reduceLT, Int.reduceAdd, Int.reduceSub, Int.reduceMul, Int.reduceEq, Int.reduceBEq, Int.reduceBNe, Int.reduceNeg, Int.reduceToNat, reduceCtorEq]) | (refine rvC_use (rspan_c _ _).v ?_; simp only [go_sem, ↓reduceIte, Nat.reduceEqDiff, Nat.reduceAdd, Nat.reduceSub, Nat.reduceMul, Nat.reduceLT, Nat.reduceLeDiff, Int.reduceLE, Int.reduceLT, Int.reduceAdd, Int.reduceSub, Int.reduceMul, Int.reduceEq, Int.reduceBEq, Int.reduceBNe, Int.reduceNeg, Int.reduceToNat, reduceCtorEq]) | (refine rdC_q (rspan_c _ _).v ?_; simp only [go_sem, ↓reduceIte, Nat.reduceEqDiff, Nat.reduceAdd, Nat.reduceSub, Nat.reduceMul, Nat.reduceLT, Nat.reduceLeDiff, Int.reduceLE, Int.reduceLT, Int.reduceAdd, Int.reduceSub, Int.reduceMul, Int.reduceEq, Int.reduceBEq, Int.reduceBNe, Int.reduceNeg, Int.reduceToNat, reduceCtorEq]) | (refine And.intro ?_ ?_) | (intro _)
  all_goals simp_all [kindB]
theorem rworn_c (k : WearD) : DCall Try.prog w0 15 [.agg k.c] h (.bool (wornB k)) h := by
  refine DCall_quiet hmix mf15_ok mf15_b mf15_g (Nat.le_of_ble_eq_true rfl) (by simp [AV.bdd, AV.bdds]) fun hb ha => ex_in ?_
  simp only [go_sem, mf15, ↓reduceIte, Nat.reduceEqDiff, Nat.reduceAdd, Nat.reduceSub, Nat.reduceMul, Nat.reduceLT, Nat.reduceLeDiff, Int.reduceLE, Int.reduceLT, Int.reduceAdd, Int.reduceSub, Int.reduceMul, Int.reduceEq, Int.reduceBEq, Int.reduceBNe, Int.reduceNeg, Int.reduceToNat, reduceCtorEq]
  repeat' first | (refine rvC_use (rspan_c _ _).v ?_; simp only [go_sem, ↓reduceIte, Nat.reduceEqDiff, Nat.reduceAdd, Nat.reduceSub, Nat.reduceMul, Nat.reduceLT, Nat.reduceLeDiff, Int.reduceLE, Int.reduceLT, Int.reduceAdd, Int.reduceSub, Int.reduceMul, Int.reduceEq, Int.reduceBEq, Int.reduceBNe, Int.reduceNeg, Int.reduceToNat, reduceCtorEq]) | (refine rdC_q (rspan_c _ _).v ?_; simp only [go_sem, ↓reduceIte, Nat.reduceEqDiff, Nat.reduceAdd, Nat.reduceSub, Nat.reduceMul, Nat.reduceLT, Nat.reduceLeDiff, Int.reduceLE, Int.reduceLT, Int.reduceAdd, Int.reduceSub, Int.reduceMul, Int.reduceEq, Int.reduceBEq, Int.reduceBNe, Int.reduceNeg, Int.reduceToNat, reduceCtorEq]) | (refine And.intro ?_ ?_) | (intro _)
  all_goals simp_all [wornB]
theorem rday_c (k : UseD) : DCall Try.prog w0 16 [.agg k.c] h (.bool (dayB k)) h := by
  refine DCall_quiet hmix mf16_ok mf16_b mf16_g (Nat.le_of_ble_eq_true rfl) (by simp [AV.bdd, AV.bdds]) fun hb ha => ex_in ?_
  simp only [go_sem, mf16, ↓reduceIte, Nat.reduceEqDiff, Nat.reduceAdd, Nat.reduceSub, Nat.reduceMul, Nat.reduceLT, Nat.reduceLeDiff, Int.reduceLE, Int.reduceLT, Int.reduceAdd, Int.reduceSub, Int.reduceMul, Int.reduceEq, Int.reduceBEq, Int.reduceBNe, Int.reduceNeg, Int.reduceToNat, reduceCtorEq]
  repeat' first | (refine rvC_use (rspan_c _ _).v ?_; simp only [go_sem, ↓reduceIte, Nat.reduceEqDiff, Nat.reduceAdd, Nat.reduceSub, Nat.reduceMul, Nat.reduceLT, Nat.reduceLeDiff, Int.reduceLE, Int.reduceLT, Int.reduceAdd, Int.reduceSub, Int.reduceMul, Int.reduceEq, Int.reduceBEq, Int.reduceBNe, Int.reduceNeg, Int.reduceToNat, reduceCtorEq]) | (refine rdC_q (rspan_c _ _).v ?_; simp only [go_sem, ↓reduceIte, Nat.reduceEqDiff, Nat.reduceAdd, Nat.reduceSub, Nat.reduceMul, Nat.reduceLT, Nat.reduceLeDiff, Int.reduceLE, Int.reduceLT, Int.reduceAdd, Int.reduceSub, Int.reduceMul, Int.reduceEq, Int.reduceBEq, Int.reduceBNe, Int.reduceNeg, Int.reduceToNat, reduceCtorEq]) | (refine And.intro ?_ ?_) | (intro _)
  all_goals simp_all [dayB]

theorem more_c (a b : Span) (sa : Ab.small a) (sb : Ab.small b) : DCall Try.prog w0 63 [.agg a.c, .agg b.c] h (.agg (plus a b).c) h := by
  refine DCall_quiet hmix mf63_ok mf63_b mf63_g (Nat.le_of_ble_eq_true rfl) (by simp [AV.bdd, AV.bdds]) fun hb ha => ex_in ?_
  simp only [Ab.small] at sa sb
  simp only [go_sem, mf63, ↓reduceIte, Nat.reduceEqDiff, Nat.reduceAdd, Nat.reduceSub, Nat.reduceMul, Nat.reduceLT, Nat.reduceLeDiff, Int.reduceLE, Int.reduceLT, Int.reduceAdd, Int.reduceSub, Int.reduceMul, Int.reduceEq, Int.reduceBEq, Int.reduceBNe, Int.reduceNeg, Int.reduceToNat, reduceCtorEq]
  exact ⟨(by unfold I64; omega), (by unfold I64; omega), rfl⟩

def growR (k : KindD) (w : WearD) (u : UseD) : WearD := ⟨plus w.minutes u.minutes, plus w.cycles u.cycles, plus w.rust (rustOf k u)⟩
theorem growR_eq (k : KindD) (w : WearD) (u : UseD) (hk : kindB k = true) (hw : wornB w = true) (hu : dayB u = true) : growR k w u = growS k w u := by
  have bw := wornB_spec hw
  have key : ∀ a b : Span, 0 ≤ a.low → 0 ≤ a.high → a.low ≤ 10000000 → a.high ≤ 10000000 → plus a b = sumS ⟨0, 0⟩ [a, b] := fun a b h1 h2 h3 h4 => by
    simp only [sumS, plus, Int.zero_add, Int.min_eq_right h3, Int.min_eq_right h4]
  simp only [growR, growS]
  rw [key _ u.minutes (by omega) (by omega) (by omega) (by omega), key _ u.cycles (by omega) (by omega) (by omega) (by omega), key _ (rustOf k u) (by omega) (by omega) (by omega) (by omega)]

theorem rgrow_c (k : KindD) (w : WearD) (u : UseD) (hk : kindB k = true) (hw : wornB w = true) (hu : dayB u = true) : DCall Try.prog w0 18 [.agg k.c, .agg w.c, .agg u.c] h (.agg (growR k w u).c) h := by
  refine DCall_quiet hmix mf18_ok mf18_b mf18_g (Nat.le_of_ble_eq_true rfl) (by simp [AV.bdd, AV.bdds]) fun hb ha => ex_in ?_
  have bk := kindB_spec hk
  have bw := wornB_spec hw
  have bu := dayB_spec hu
  have m1 := mul_bd (a := k.salt.low) (A := 10000) (b := u.salt.low) (B := 200) (by omega) (by omega) (by omega) (by omega)
  have m2 := mul_bd (a := k.salt.high) (A := 10000) (b := u.salt.high) (B := 200) (by omega) (by omega) (by omega) (by omega)
  have m3 := mul_bd (a := k.salt.low * u.salt.low + k.stand.low) (A := 2010000) (b := k.wash) (B := 1000) (by omega) (by omega) (by omega) (by omega)
  have m4 := mul_bd (a := k.salt.high * u.salt.high + k.stand.high) (A := 2010000) (b := k.wash) (B := 1000) (by omega) (by omega) (by omega) (by omega)
  have d1 := Int.tdiv_eq_ediv_of_nonneg (b := 1000) m3.1
  have d2 : ((k.salt.high * u.salt.high + k.stand.high) * k.wash + 999).tdiv 1000 = ((k.salt.high * u.salt.high + k.stand.high) * k.wash + 999) / 1000 := Int.tdiv_eq_ediv_of_nonneg (by omega)
  cases hwash : u.washed
  · simp only [go_sem, mf18, hwash, ↓reduceIte, Nat.reduceEqDiff, Nat.reduceAdd, Nat.reduceSub, Nat.reduceMul, Nat.reduceLT, Nat.reduceLeDiff, Int.reduceLE, Int.reduceLT, Int.reduceAdd, Int.reduceSub, Int.reduceMul, Int.reduceEq, Int.reduceBEq, Int.reduceBNe, Int.reduceNeg, Int.reduceToNat, reduceCtorEq]
    refine ⟨(by unfold I64; omega), (by unfold I64; omega), (by unfold I64; omega), (by unfold I64; omega), ?_⟩
    refine rdC_q (more_c w.minutes u.minutes (by simp only [Ab.small]; omega) (by simp only [Ab.small]; omega)).v ?_
    simp only [go_sem, ↓reduceIte, Nat.reduceEqDiff, Nat.reduceAdd, Nat.reduceSub, Nat.reduceMul, Nat.reduceLT, Nat.reduceLeDiff, Int.reduceLE, Int.reduceLT, Int.reduceAdd, Int.reduceSub, Int.reduceMul, Int.reduceEq, Int.reduceBEq, Int.reduceBNe, Int.reduceNeg, Int.reduceToNat, reduceCtorEq]
    refine rdC_q (more_c w.cycles u.cycles (by simp only [Ab.small]; omega) (by simp only [Ab.small]; omega)).v ?_
    simp only [go_sem, ↓reduceIte, Nat.reduceEqDiff, Nat.reduceAdd, Nat.reduceSub, Nat.reduceMul, Nat.reduceLT, Nat.reduceLeDiff, Int.reduceLE, Int.reduceLT, Int.reduceAdd, Int.reduceSub, Int.reduceMul, Int.reduceEq, Int.reduceBEq, Int.reduceBNe, Int.reduceNeg, Int.reduceToNat, reduceCtorEq]
    refine rdC_q (more_c w.rust ⟨k.salt.low * u.salt.low + k.stand.low, k.salt.high * u.salt.high + k.stand.high⟩ (by simp only [Ab.small]; omega) (by simp only [Ab.small]; omega)).v ?_
    simp only [go_sem, ↓reduceIte, Nat.reduceEqDiff, Nat.reduceAdd, Nat.reduceSub, Nat.reduceMul, Nat.reduceLT, Nat.reduceLeDiff, Int.reduceLE, Int.reduceLT, Int.reduceAdd, Int.reduceSub, Int.reduceMul, Int.reduceEq, Int.reduceBEq, Int.reduceBNe, Int.reduceNeg, Int.reduceToNat, reduceCtorEq]
    simp [growR, rustOf, hwash]
  · simp only [go_sem, mf18, d1, d2, hwash, ↓reduceIte, Nat.reduceEqDiff, Nat.reduceAdd, Nat.reduceSub, Nat.reduceMul, Nat.reduceLT, Nat.reduceLeDiff, Int.reduceLE, Int.reduceLT, Int.reduceAdd, Int.reduceSub, Int.reduceMul, Int.reduceEq, Int.reduceBEq, Int.reduceBNe, Int.reduceNeg, Int.reduceToNat, reduceCtorEq]
    refine ⟨(by unfold I64; omega), (by unfold I64; omega), (by unfold I64; omega), (by unfold I64; omega), (by unfold I64; omega), (by unfold I64; omega), (by unfold I64; omega), (by unfold I64; omega), (by unfold I64; omega), ?_⟩
    refine rdC_q (more_c w.minutes u.minutes (by simp only [Ab.small]; omega) (by simp only [Ab.small]; omega)).v ?_
    simp only [go_sem, ↓reduceIte, Nat.reduceEqDiff, Nat.reduceAdd, Nat.reduceSub, Nat.reduceMul, Nat.reduceLT, Nat.reduceLeDiff, Int.reduceLE, Int.reduceLT, Int.reduceAdd, Int.reduceSub, Int.reduceMul, Int.reduceEq, Int.reduceBEq, Int.reduceBNe, Int.reduceNeg, Int.reduceToNat, reduceCtorEq]
    refine rdC_q (more_c w.cycles u.cycles (by simp only [Ab.small]; omega) (by simp only [Ab.small]; omega)).v ?_
    simp only [go_sem, ↓reduceIte, Nat.reduceEqDiff, Nat.reduceAdd, Nat.reduceSub, Nat.reduceMul, Nat.reduceLT, Nat.reduceLeDiff, Int.reduceLE, Int.reduceLT, Int.reduceAdd, Int.reduceSub, Int.reduceMul, Int.reduceEq, Int.reduceBEq, Int.reduceBNe, Int.reduceNeg, Int.reduceToNat, reduceCtorEq]
    refine rdC_q (more_c w.rust ⟨(k.salt.low * u.salt.low + k.stand.low) * k.wash / 1000, ((k.salt.high * u.salt.high + k.stand.high) * k.wash + 999) / 1000⟩ (by simp only [Ab.small]; omega) (by simp only [Ab.small]; omega)).v ?_
    simp only [go_sem, ↓reduceIte, Nat.reduceEqDiff, Nat.reduceAdd, Nat.reduceSub, Nat.reduceMul, Nat.reduceLT, Nat.reduceLeDiff, Int.reduceLE, Int.reduceLT, Int.reduceAdd, Int.reduceSub, Int.reduceMul, Int.reduceEq, Int.reduceBEq, Int.reduceBNe, Int.reduceNeg, Int.reduceToNat, reduceCtorEq]
    simp [growR, rustOf, hwash]
end Go.Proofs.Ab

namespace Go.Proofs.Ab
open Go Go.Proofs
variable {w0 : World} {h : Heap}
attribute [local irreducible] ACall ACallV AYield DCall DCallV rvC rdC lp rg dr ex un rv rd'

theorem cmpN_symm : ∀ a b : List Int, cmpN b a = - cmpN a b
  | [], [] => rfl
  | [], _ :: _ => rfl
  | _ :: _, [] => rfl
  | x :: xs, y :: ys => by
    have ih := cmpN_symm xs ys
    simp only [cmpN, cmpI]
    rcases Int.lt_trichotomy x y with e | e | e
    · simp [e, show ¬ y < x by omega]
    · subst e; simp [ih]
    · simp [e, show ¬ x < y by omega]
theorem cmpN_eq : ∀ a b : List Int, cmpN a b = 0 ↔ a = b
  | [], [] => by simp [cmpN]
  | [], _ :: _ => by simp [cmpN]
  | _ :: _, [] => by simp [cmpN]
  | x :: xs, y :: ys => by
    have ih := cmpN_eq xs ys
    simp only [cmpN, cmpI]
    rcases Int.lt_trichotomy x y with e | e | e
    · simp [e, show ¬ y < x by omega, show x ≠ y by omega]
    · subst e; simp [ih]
    · simp [e, show ¬ x < y by omega, show x ≠ y by omega]
def lessI (a b : List Int) : Bool := decide (cmpN a b < 0)
theorem same_eq (a b : List Int) : (!(lessI a b) && !(lessI b a)) = decide (a = b) := by
  simp only [lessI]
  rw [cmpN_symm a b]
  by_cases e : a = b
  · have := (cmpN_eq a b).2 e
    subst e; simp [this]
  · have : cmpN a b ≠ 0 := fun x => e ((cmpN_eq a b).1 x)
    rcases Int.lt_trichotomy (cmpN a b) 0 with h1 | h1 | h1
    · simp [h1, e]
    · exact absurd h1 this
    · simp [e]; omega

theorem lessI_c (a b : List Int) (va vb : AV) (hva : SlI w0 h va a) (hvb : SlI w0 h vb b) (hn : a.length < 1000000) :
    DCall Try.prog w0 86 [va, vb] h (.bool (lessI a b)) h := by
  refine DCall_quiet hmix mf86_ok mf86_b mf86_g (Nat.le_of_ble_eq_true rfl) (by simp [AV.bdd, AV.bdds]) fun hb ha => ex_in ?_
  obtain ⟨ln1, q1, ix1, row1⟩ := hva.use
  obtain ⟨ln2, q2, ix2, row2⟩ := hvb.use
  simp only [go_sem, mf86, ↓reduceIte, Nat.reduceEqDiff, Nat.reduceAdd, Nat.reduceSub, Nat.reduceMul, Nat.reduceLT, Nat.reduceLeDiff, Int.reduceLE, Int.reduceLT, Int.reduceAdd, Int.reduceSub, Int.reduceMul, Int.reduceEq, Int.reduceBEq, Int.reduceBNe, Int.reduceNeg, Int.reduceToNat, reduceCtorEq]
  refine lp_all (fun j => [(0, va), (1, vb), (5, .int .i64 j)]) (fun j => ∃ (h1 : j < a.length) (h2 : j < b.length), cmpI a[j] b[j] = 0) (min a.length b.length) rfl (fun j hj hi ih => ?_) (fun hi => ?_)
  · refine lp_step hmix L86_0_g [0, 1, 5] L86_0.eq_1 ?_
    have hja : j < a.length := by omega
    have hjb : j < b.length := by omega
    have e1 := ix1 j hja
    have e2 := row1 j hja
    have e3 : (j : Int) < a.length := by omega
    have e4 := ix2 j hjb
    have e5 := row2 j hjb
    have e6 : (j : Int) < b.length := by omega
    have hd := cmpN_drop a b j (by omega) (by omega) fun i h1 h2 hij => by
      obtain ⟨_, _, e⟩ := hi i hij; exact e
    rw [List.drop_eq_getElem_cons hja, List.drop_eq_getElem_cons hjb] at hd
    simp only [go_sem, e1, e2, e3, e4, e5, e6, ln1, ln2, ↓reduceIte, Nat.reduceEqDiff, Nat.reduceAdd, Nat.reduceSub, Nat.reduceMul, Nat.reduceLT, Nat.reduceLeDiff, Int.reduceLE, Int.reduceLT, Int.reduceAdd, Int.reduceSub, Int.reduceMul, Int.reduceEq, Int.reduceBEq, Int.reduceBNe, Int.reduceNeg, Int.reduceToNat, reduceCtorEq]
    refine ⟨fun e => ?_, fun e => ⟨(by unfold I64; omega), ih ⟨hja, hjb, ?_⟩⟩⟩
    · simp only [cmpN, cmpI] at hd
      simp only [lessI, hd]
      have hne : a[j] ≠ b[j] := by simpa using e
      rcases Int.lt_trichotomy a[j] b[j] with h1 | h1 | h1
      · simp [h1]
      · exact absurd h1 hne
      · simp [h1, show ¬ a[j] < b[j] by omega]
    · have : a[j] = b[j] := by simpa using e
      simp [cmpI, this]
  · refine lp_step hmix L86_0_g [0, 1, 5] L86_0.eq_1 ?_
    have hd := cmpN_drop a b (min a.length b.length) (by omega) (by omega) fun i h1 h2 hij => by
      obtain ⟨_, _, e⟩ := hi i hij; exact e
    by_cases hl : a.length ≤ b.length
    · have hm : min a.length b.length = a.length := by omega
      rw [hm] at hd ⊢
      rw [List.drop_eq_nil_of_le (Nat.le_refl _)] at hd
      have e3 : ¬ (a.length : Int) < a.length := by omega
      simp only [go_sem, e3, ln1, ln2, ↓reduceIte, Nat.reduceEqDiff, Nat.reduceAdd, Nat.reduceSub, Nat.reduceMul, Nat.reduceLT, Nat.reduceLeDiff, Int.reduceLE, Int.reduceLT, Int.reduceAdd, Int.reduceSub, Int.reduceMul, Int.reduceEq, Int.reduceBEq, Int.reduceBNe, Int.reduceNeg, Int.reduceToNat, reduceCtorEq]
      simp only [lessI, hd]
      by_cases hl2 : a.length < b.length
      · rw [List.drop_eq_getElem_cons hl2]; simp [cmpN, hl2]
      · rw [List.drop_eq_nil_of_le (by omega)]; simp [cmpN, hl2]
    · have hm : min a.length b.length = b.length := by omega
      rw [hm] at hd ⊢
      have e3 : (b.length : Int) < a.length := by omega
      have e4 : ¬ (b.length : Int) < b.length := by omega
      rw [List.drop_eq_getElem_cons (show b.length < a.length by omega), List.drop_eq_nil_of_le (Nat.le_refl _)] at hd
      have e5 : ¬ (a.length : Int) < b.length := by omega
      simp only [go_sem, e3, e4, e5, ln1, ln2, ↓reduceIte, Nat.reduceEqDiff, Nat.reduceAdd, Nat.reduceSub, Nat.reduceMul, Nat.reduceLT, Nat.reduceLeDiff, Int.reduceLE, Int.reduceLT, Int.reduceAdd, Int.reduceSub, Int.reduceMul, Int.reduceEq, Int.reduceBEq, Int.reduceBNe, Int.reduceNeg, Int.reduceToNat, reduceCtorEq]
      simp [lessI, hd, cmpN]

theorem same_c (a b : List Int) (va vb : AV) (hva : SlI w0 h va a) (hvb : SlI w0 h vb b) (hn : a.length < 1000000) (hn2 : b.length < 1000000) :
    DCall Try.prog w0 85 [va, vb] h (.bool (decide (a = b))) h := by
  refine DCall_quiet hmix mf85_ok mf85_b mf85_g (Nat.le_of_ble_eq_true rfl) (by simp [AV.bdd, AV.bdds]) fun hb ha => ex_in ?_
  simp only [go_sem, mf85, ↓reduceIte, Nat.reduceEqDiff, Nat.reduceAdd, Nat.reduceSub, Nat.reduceMul, Nat.reduceLT, Nat.reduceLeDiff, Int.reduceLE, Int.reduceLT, Int.reduceAdd, Int.reduceSub, Int.reduceMul, Int.reduceEq, Int.reduceBEq, Int.reduceBNe, Int.reduceNeg, Int.reduceToNat, reduceCtorEq]
  refine rvC_use (lessI_c a b va vb (Sl.app hva) (Sl.app hvb) hn).v ?_
  simp only [go_sem, ↓reduceIte, Nat.reduceEqDiff, Nat.reduceAdd, Nat.reduceSub, Nat.reduceMul, Nat.reduceLT, Nat.reduceLeDiff, Int.reduceLE, Int.reduceLT, Int.reduceAdd, Int.reduceSub, Int.reduceMul, Int.reduceEq, Int.reduceBEq, Int.reduceBNe, Int.reduceNeg, Int.reduceToNat, reduceCtorEq]
  rw [← same_eq]
  refine ⟨fun e => ?_, fun e => by simp [e]⟩
  refine rvC_use (lessI_c b a vb va (Sl.app hvb) (Sl.app hva) hn2).v ?_
  simp only [go_sem, ↓reduceIte, Nat.reduceEqDiff, Nat.reduceAdd, Nat.reduceSub, Nat.reduceMul, Nat.reduceLT, Nat.reduceLeDiff, Int.reduceLE, Int.reduceLT, Int.reduceAdd, Int.reduceSub, Int.reduceMul, Int.reduceEq, Int.reduceBEq, Int.reduceBNe, Int.reduceNeg, Int.reduceToNat, reduceCtorEq]
  simp [e]

theorem samePlan_c (a b : List (List Int)) (va vb : AV) (hva : LL w0 h va a) (hvb : LL w0 h vb b) (hn : a.length < 1000000) (ha1 : ∀ l ∈ a, l.length < 1000000) (hb1 : ∀ l ∈ b, l.length < 1000000) :
    DCall Try.prog w0 34 [va, vb] h (.bool (decide (a = b))) h := by
  refine DCall_quiet hmix mf34_ok mf34_b mf34_g (Nat.le_of_ble_eq_true rfl) (by simp [AV.bdd, AV.bdds]) fun hb ha => ex_in ?_
  have ln1 := hva.len
  have ln2 := hvb.len
  simp only [go_sem, mf34, ln1, ln2, ↓reduceIte, Nat.reduceEqDiff, Nat.reduceAdd, Nat.reduceSub, Nat.reduceMul, Nat.reduceLT, Nat.reduceLeDiff, Int.reduceLE, Int.reduceLT, Int.reduceAdd, Int.reduceSub, Int.reduceMul, Int.reduceEq, Int.reduceBEq, Int.reduceBNe, Int.reduceNeg, Int.reduceToNat, reduceCtorEq]
  refine ⟨fun e => ?_, fun e => ?_⟩
  · have : a ≠ b := fun x => by subst x; simp at e
    simp [this]
  · have el : a.length = b.length := by have : (a.length : Int) = b.length := by simpa using e
                                        omega
    refine lp_all (fun j => [(0, va), (1, vb), (5, .int .i64 j)]) (fun j => ∃ (h1 : j < a.length) (h2 : j < b.length), a[j] = b[j]) a.length rfl (fun j hj hi ih => ?_) (fun hi => ?_)
    · refine lp_step hmix L34_0_g [0, 1, 5] L34_0.eq_1 ?_
      obtain ⟨p1, x1, i1, r1, s1⟩ := hva.list hj
      obtain ⟨p2, x2, i2, r2, s2⟩ := hvb.list (show j < b.length by omega)
      have e3 : (j : Int) < a.length := by omega
      simp only [go_sem, e3, ln1, i1, r1, i2, r2, ↓reduceIte, Nat.reduceEqDiff, Nat.reduceAdd, Nat.reduceSub, Nat.reduceMul, Nat.reduceLT, Nat.reduceLeDiff, Int.reduceLE, Int.reduceLT, Int.reduceAdd, Int.reduceSub, Int.reduceMul, Int.reduceEq, Int.reduceBEq, Int.reduceBNe, Int.reduceNeg, Int.reduceToNat, reduceCtorEq]
      refine rdC_q (same_c a[j] b[j] x1 x2 (Sl.app s1) (Sl.app s2) (ha1 _ (List.getElem_mem _)) (hb1 _ (List.getElem_mem _))).v ?_
      simp only [go_sem, ↓reduceIte, Nat.reduceEqDiff, Nat.reduceAdd, Nat.reduceSub, Nat.reduceMul, Nat.reduceLT, Nat.reduceLeDiff, Int.reduceLE, Int.reduceLT, Int.reduceAdd, Int.reduceSub, Int.reduceMul, Int.reduceEq, Int.reduceBEq, Int.reduceBNe, Int.reduceNeg, Int.reduceToNat, reduceCtorEq]
      refine ⟨fun e => ?_, fun e => ⟨(by unfold I64; omega), ih ⟨hj, by omega, by simpa using e⟩⟩⟩
      have : a ≠ b := fun x => by subst x; simp at e
      simp [this]
    · refine lp_step hmix L34_0_g [0, 1, 5] L34_0.eq_1 ?_
      have e3 : ¬ (a.length : Int) < a.length := by omega
      simp only [go_sem, e3, ln1, ↓reduceIte, Nat.reduceEqDiff, Nat.reduceAdd, Nat.reduceSub, Nat.reduceMul, Nat.reduceLT, Nat.reduceLeDiff, Int.reduceLE, Int.reduceLT, Int.reduceAdd, Int.reduceSub, Int.reduceMul, Int.reduceEq, Int.reduceBEq, Int.reduceBNe, Int.reduceNeg, Int.reduceToNat, reduceCtorEq]
      have : a = b := List.ext_getElem el fun i h1 h2 => by obtain ⟨_, _, e⟩ := hi i h1; exact e
      simp [this]

theorem ieq (a b : Int) : (a == b) = decide (a = b) := by by_cases h : a = b <;> simp [h]
@[go_sem] theorem eqa2 {a b c d : Int} : eqaV [true, true] false (.agg [.int .i64 a, .int .i64 b]) (.agg [.int .i64 c, .int .i64 d]) = some (.bool (decide (a = c ∧ b = d))) := by
  have := ceqs_ints [a, b] [c, d] rfl
  simp only [ints, List.map_cons, List.map_nil, List.length_cons, List.length_nil, List.replicate_succ, List.replicate_zero] at this
  simp [eqaV, this, ieq]
@[go_sem] theorem eqa2n {a b c d : Int} : eqaV [true, true] true (.agg [.int .i64 a, .int .i64 b]) (.agg [.int .i64 c, .int .i64 d]) = some (.bool (!decide (a = c ∧ b = d))) := by
  have := ceqs_ints [a, b] [c, d] rfl
  simp only [ints, List.map_cons, List.map_nil, List.length_cons, List.length_nil, List.replicate_succ, List.replicate_zero] at this
  simp [eqaV, this, ieq]
@[go_sem] theorem eqa3 {a b c a' b' c' : Int} : eqaV [true, true, true] false (.agg [.int .i64 a, .int .i64 b, .int .i64 c]) (.agg [.int .i64 a', .int .i64 b', .int .i64 c']) = some (.bool (decide (a = a' ∧ b = b' ∧ c = c'))) := by
  have := ceqs_ints [a, b, c] [a', b', c'] rfl
  simp only [ints, List.map_cons, List.map_nil, List.length_cons, List.length_nil, List.replicate_succ, List.replicate_zero] at this
  simp [eqaV, this, ieq]
@[go_sem] theorem eqa6 {a b c d e f a' b' c' d' e' f' : Int} : eqaV [true, true, true, true, true, true] false (.agg [.int .i64 a, .int .i64 b, .int .i64 c, .int .i64 d, .int .i64 e, .int .i64 f]) (.agg [.int .i64 a', .int .i64 b', .int .i64 c', .int .i64 d', .int .i64 e', .int .i64 f']) =
    some (.bool (decide (a = a' ∧ b = b' ∧ c = c' ∧ d = d' ∧ e = e' ∧ f = f'))) := by
  have := ceqs_ints [a, b, c, d, e, f] [a', b', c', d', e', f'] rfl
  simp only [ints, List.map_cons, List.map_nil, List.length_cons, List.length_nil, List.replicate_succ, List.replicate_zero] at this
  simp [eqaV, this, ieq]

theorem Span.ext_iff' {a b : Span} : a = b ↔ a.low = b.low ∧ a.high = b.high := by
  constructor
  · rintro rfl; exact ⟨rfl, rfl⟩
  · cases a; cases b; simp only [Span.mk.injEq]; exact id
instance : DecidableEq Span := fun _ _ => decidable_of_iff _ Span.ext_iff'.symm

theorem sameSpans_c (a b : List Span) (va vb : AV) (hva : Sl w0 h 2 va (a.map Span.c)) (hvb : Sl w0 h 2 vb (b.map Span.c)) (hn : a.length < 1000000) :
    DCall Try.prog w0 40 [va, vb] h (.bool (decide (a = b))) h := by
  refine DCall_quiet hmix mf40_ok mf40_b mf40_g (Nat.le_of_ble_eq_true rfl) (by simp [AV.bdd, AV.bdds]) fun hb ha => ex_in ?_
  obtain ⟨ln1, q1, ix1, row1, _⟩ := hva.use
  obtain ⟨ln2, q2, ix2, row2, _⟩ := hvb.use
  simp only [List.length_map] at ln1 ln2 ix1 ix2
  simp only [go_sem, mf40, ln1, ln2, ↓reduceIte, Nat.reduceEqDiff, Nat.reduceAdd, Nat.reduceSub, Nat.reduceMul, Nat.reduceLT, Nat.reduceLeDiff, Int.reduceLE, Int.reduceLT, Int.reduceAdd, Int.reduceSub, Int.reduceMul, Int.reduceEq, Int.reduceBEq, Int.reduceBNe, Int.reduceNeg, Int.reduceToNat, reduceCtorEq]
  refine ⟨fun e => ?_, fun e => ?_⟩
  · have : a ≠ b := fun x => by subst x; simp at e
    simp [this]
  · have el : a.length = b.length := by have : (a.length : Int) = b.length := by simpa using e
                                        omega
    refine lp_all (fun j => [(0, va), (1, vb), (5, .int .i64 j)]) (fun j => ∃ (h1 : j < a.length) (h2 : j < b.length), a[j] = b[j]) a.length rfl (fun j hj hi ih => ?_) (fun hi => ?_)
    · refine lp_step hmix L40_0_g [0, 1, 5] L40_0.eq_1 ?_
      have hjb : j < b.length := by omega
      have e1 := ix1 j hj
      have e2 : ∀ L, rdn w0 (h ++ L) (q1.add (j * 2)) 2 = some a[j].c := fun L => rdn_app (row1 j _ (by simp [hj]))
      have e3 : (j : Int) < a.length := by omega
      have e4 := ix2 j hjb
      have e5 : ∀ L, rdn w0 (h ++ L) (q2.add (j * 2)) 2 = some b[j].c := fun L => rdn_app (row2 j _ (by simp [hjb]))
      simp only [go_sem, e1, e2, e3, e4, e5, ln1, ↓reduceIte, Nat.reduceEqDiff, Nat.reduceAdd, Nat.reduceSub, Nat.reduceMul, Nat.reduceLT, Nat.reduceLeDiff, Int.reduceLE, Int.reduceLT, Int.reduceAdd, Int.reduceSub, Int.reduceMul, Int.reduceEq, Int.reduceBEq, Int.reduceBNe, Int.reduceNeg, Int.reduceToNat, reduceCtorEq]
      refine ⟨fun e => ?_, fun e => ⟨(by unfold I64; omega), ih ⟨hj, hjb, Span.ext_iff'.2 (by simpa using e)⟩⟩⟩
      have : a ≠ b := fun x => by subst x; simp at e
      simp [this]
    · refine lp_step hmix L40_0_g [0, 1, 5] L40_0.eq_1 ?_
      have e3 : ¬ (a.length : Int) < a.length := by omega
      simp only [go_sem, e3, ln1, ↓reduceIte, Nat.reduceEqDiff, Nat.reduceAdd, Nat.reduceSub, Nat.reduceMul, Nat.reduceLT, Nat.reduceLeDiff, Int.reduceLE, Int.reduceLT, Int.reduceAdd, Int.reduceSub, Int.reduceMul, Int.reduceEq, Int.reduceBEq, Int.reduceBNe, Int.reduceNeg, Int.reduceToNat, reduceCtorEq]
      have : a = b := List.ext_getElem el fun i h1 h2 => by obtain ⟨_, _, e⟩ := hi i h1; exact e
      simp [this]
end Go.Proofs.Ab

namespace Go.Proofs.Ab
open Go Go.Proofs
variable {w0 : World} {h : Heap}
attribute [local irreducible] ACall ACallV AYield DCall DCallV rvC rdC lp rg dr ex un rv rd'

def kindX : KindD := ⟨1000, 40, 100, ⟨2, 4⟩, ⟨1, 3⟩, 500⟩
def dayX (w : Bool) : UseD := ⟨⟨200, 250⟩, ⟨6, 8⟩, ⟨4, 5⟩, w⟩
def bayX : BayD := ⟨[kindX], [⟨0, ⟨⟨300, 300⟩, ⟨10, 10⟩, ⟨40, 50⟩⟩⟩, ⟨0, ⟨⟨0, 0⟩, ⟨0, 0⟩, ⟨0, 0⟩⟩⟩],
  [dayX false, dayX true, dayX false, dayX true, dayX false, dayX false], [true, true, false, true, true, true], 1, [⟨1, ⟨0, 3⟩⟩]⟩
def bayXv (n : Nat) : BayV := ⟨.sl (.own (n + 1) 0) 1 8 true, .sl (.own (n + 2) 0) 2 7 true, .sl (.own (n + 3) 0) 6 7 true, .sl (.own (n + 4) 0) 6 1 true, .sl (.own (n + 5) 0) 1 3 true⟩
def bayXh (n : Nat) : Heap := [some (.row (bayC bayX (bayXv n))), some (.row ((bayX.kinds.map KindD.c).flatten)), some (.row ((bayX.slots.map PartD.c).flatten)), some (.row ((bayX.days.map UseD.c).flatten)),
  some (.row ((bayX.nights.map fun x => [.bool x]).flatten)), some (.row ((bayX.defs.map DefD.c).flatten))]

theorem kindX_c : DCall Try.prog w0 60 [] h (.agg kindX.c) h := by
  refine DCall_quiet hmix mf60_ok mf60_b mf60_g (Nat.le_of_ble_eq_true rfl) (by simp [AV.bdd, AV.bdds]) fun hb ha => ex_in ?_
  simp only [go_sem, mf60, ↓reduceIte, Nat.reduceEqDiff, Nat.reduceAdd, Nat.reduceSub, Nat.reduceMul, Nat.reduceLT, Nat.reduceLeDiff, Int.reduceLE, Int.reduceLT, Int.reduceAdd, Int.reduceSub, Int.reduceMul, Int.reduceEq, Int.reduceBEq, Int.reduceBNe, Int.reduceNeg, Int.reduceToNat, reduceCtorEq]
  rfl
theorem dayX_c (w : Bool) : DCall Try.prog w0 61 [.bool w] h (.agg (dayX w).c) h := by
  refine DCall_quiet hmix mf61_ok mf61_b mf61_g (Nat.le_of_ble_eq_true rfl) (by simp [AV.bdd, AV.bdds]) fun hb ha => ex_in ?_
  simp only [go_sem, mf61, ↓reduceIte, Nat.reduceEqDiff, Nat.reduceAdd, Nat.reduceSub, Nat.reduceMul, Nat.reduceLT, Nat.reduceLeDiff, Int.reduceLE, Int.reduceLT, Int.reduceAdd, Int.reduceSub, Int.reduceMul, Int.reduceEq, Int.reduceBEq, Int.reduceBNe, Int.reduceNeg, Int.reduceToNat, reduceCtorEq]
  rfl
theorem bayX_R : BayR w0 (h ++ bayXh h.length) bayX (bayXv h.length) := by
  refine ⟨?_, ?_, ?_, ?_, ?_, by decide⟩
  · exact Sl_lit (w0 := w0) (h := h) (L := bayXh h.length) (bayX.kinds.map KindD.c) (es := 8) true 1 rfl (by simp [KindD.c])
  · exact Sl_lit (w0 := w0) (h := h) (L := bayXh h.length) (bayX.slots.map PartD.c) (es := 7) true 2 rfl (by simp [PartD.c])
  · exact Sl_lit (w0 := w0) (h := h) (L := bayXh h.length) (bayX.days.map UseD.c) (es := 7) true 3 rfl (by simp [UseD.c])
  · exact Sl_lit (w0 := w0) (h := h) (L := bayXh h.length) (bayX.nights.map fun x => [.bool x]) (es := 1) true 4 rfl (by simp only [List.mem_map]; rintro c ⟨x, _, rfl⟩; rfl)
  · exact Sl_lit (w0 := w0) (h := h) (L := bayXh h.length) (bayX.defs.map DefD.c) (es := 3) true 5 rfl (by simp [DefD.c])

theorem bayX_c : DCall Try.prog w0 62 [] h (.agg (bayC bayX (bayXv h.length))) (h ++ bayXh h.length) := by
  refine DCall_new hmix mf62_ok mf62_b mf62_g (Nat.le_of_ble_eq_true rfl) (by simp [bayC, bayXv, AV.bdd, AV.bdds, Pl.bdd, bayXh]) (fun _ => by
    simp [bayXh, HBs_some, HBs_nil, row_bdd, bayC, bayXv, AV.bdd, AV.bdds, Pl.bdd, bayX, KindD.c, PartD.c, UseD.c, DefD.c]) fun hb ha => ex_in ?_
  simp only [go_sem, mf62, ↓reduceIte, Nat.reduceEqDiff, Nat.reduceAdd, Nat.reduceSub, Nat.reduceMul, Nat.reduceLT, Nat.reduceLeDiff, Int.reduceLE, Int.reduceLT, Int.reduceAdd, Int.reduceSub, Int.reduceMul, Int.reduceEq, Int.reduceBEq, Int.reduceBNe, Int.reduceNeg, Int.reduceToNat, reduceCtorEq]
  refine rvC_use kindX_c.v ?_
  simp only [go_sem, kindX, ↓reduceIte, Nat.reduceEqDiff, Nat.reduceAdd, Nat.reduceSub, Nat.reduceMul, Nat.reduceLT, Nat.reduceLeDiff, Int.reduceLE, Int.reduceLT, Int.reduceAdd, Int.reduceSub, Int.reduceMul, Int.reduceEq, Int.reduceBEq, Int.reduceBNe, Int.reduceNeg, Int.reduceToNat, reduceCtorEq]
  refine rvC_use (dayX_c _).v ?_
  simp only [go_sem, ↓reduceIte, Nat.reduceEqDiff, Nat.reduceAdd, Nat.reduceSub, Nat.reduceMul, Nat.reduceLT, Nat.reduceLeDiff, Int.reduceLE, Int.reduceLT, Int.reduceAdd, Int.reduceSub, Int.reduceMul, Int.reduceEq, Int.reduceBEq, Int.reduceBNe, Int.reduceNeg, Int.reduceToNat, reduceCtorEq]
  refine rvC_use (dayX_c _).v ?_
  simp only [go_sem, ↓reduceIte, Nat.reduceEqDiff, Nat.reduceAdd, Nat.reduceSub, Nat.reduceMul, Nat.reduceLT, Nat.reduceLeDiff, Int.reduceLE, Int.reduceLT, Int.reduceAdd, Int.reduceSub, Int.reduceMul, Int.reduceEq, Int.reduceBEq, Int.reduceBNe, Int.reduceNeg, Int.reduceToNat, reduceCtorEq]
  refine rvC_use (dayX_c _).v ?_
  simp only [go_sem, ↓reduceIte, Nat.reduceEqDiff, Nat.reduceAdd, Nat.reduceSub, Nat.reduceMul, Nat.reduceLT, Nat.reduceLeDiff, Int.reduceLE, Int.reduceLT, Int.reduceAdd, Int.reduceSub, Int.reduceMul, Int.reduceEq, Int.reduceBEq, Int.reduceBNe, Int.reduceNeg, Int.reduceToNat, reduceCtorEq]
  refine rvC_use (dayX_c _).v ?_
  simp only [go_sem, ↓reduceIte, Nat.reduceEqDiff, Nat.reduceAdd, Nat.reduceSub, Nat.reduceMul, Nat.reduceLT, Nat.reduceLeDiff, Int.reduceLE, Int.reduceLT, Int.reduceAdd, Int.reduceSub, Int.reduceMul, Int.reduceEq, Int.reduceBEq, Int.reduceBNe, Int.reduceNeg, Int.reduceToNat, reduceCtorEq]
  refine rvC_use (dayX_c _).v ?_
  simp only [go_sem, ↓reduceIte, Nat.reduceEqDiff, Nat.reduceAdd, Nat.reduceSub, Nat.reduceMul, Nat.reduceLT, Nat.reduceLeDiff, Int.reduceLE, Int.reduceLT, Int.reduceAdd, Int.reduceSub, Int.reduceMul, Int.reduceEq, Int.reduceBEq, Int.reduceBNe, Int.reduceNeg, Int.reduceToNat, reduceCtorEq]
  refine rvC_use (dayX_c _).v ?_
  simp only [go_sem, dayX, ↓reduceIte, Nat.reduceEqDiff, Nat.reduceAdd, Nat.reduceSub, Nat.reduceMul, Nat.reduceLT, Nat.reduceLeDiff, Int.reduceLE, Int.reduceLT, Int.reduceAdd, Int.reduceSub, Int.reduceMul, Int.reduceEq, Int.reduceBEq, Int.reduceBNe, Int.reduceNeg, Int.reduceToNat, reduceCtorEq]
  exact ⟨rfl, rfl, rfl, rfl, rfl, rfl, rfl, trivial⟩

end Go.Proofs.Ab

namespace Go.Proofs.Ab
open Go Go.Proofs
variable {w0 : World} {h : Heap}
attribute [local irreducible] ACall ACallV AYield DCall DCallV rvC rdC lp rg dr ex un rv rd'

theorem exGrow : (if kindB kindX && wornB noWear && dayB (dayX true) then AV.tup [.agg (growS kindX noWear (dayX true)).c, .int .i64 0] else .tup [.agg noWear.c, .int .i64 2]) =
  .tup [.agg [.int .i64 200, .int .i64 250, .int .i64 6, .int .i64 8, .int .i64 4, .int .i64 12], .int .i64 0] := by kernel_rfl
theorem exBay : bayB bayX = true := by kernel_rfl
theorem exLasts : LastsV bayX 0 (-1) = .tup [.int .i64 1, .int .i64 2, .int .i64 0] := by kernel_rfl
theorem exProof : proofD bayX = [⟨0, 1⟩] := by kernel_rfl
theorem exRight : RightV bayX [[], [0], [], [], [], []] = .tup [.agg [.int .i64 3, .int .i64 5, .int .i64 0], .int .i64 0] := by kernel_rfl
theorem exOk : (searchD bayX bayX.days.length 0 [-1, -1, -1, -1, -1]).ok = true := by kernel_rfl
theorem exPlan : planD bayX = [[], [0], [], [1], [], []] := by kernel_rfl

theorem planX_LL (l : List (List Int)) {H : Heap} {i : Nat} {vs : List AV} (hi : H[i]? = some (some (.row vs))) (hl : vs.length = l.length) (hv : ∀ (j : Nat) x q, vs[j]? = some x → l[j]? = some q → SlI w0 H x q) : LL w0 H (.sl (.own i 0) l.length 1 true) l := by
  refine ⟨vs, hl, .inr ⟨.own i 0, true, ⟨1, by rw [List.length_map, hl], esOk_s⟩, get_lt hi, fun j c hc => ?_⟩, hv⟩
  simp only [List.getElem?_map, Option.map_eq_some_iff] at hc
  obtain ⟨x, hx, rfl⟩ := hc
  have hj := get_some_lt hx
  simp only [Pl.add, rdn, hi]
  rw [if_pos (by omega), List.drop_eq_getElem_cons (by omega)]
  simp only [List.take_succ_cons, List.take_zero]
  have : vs[0 + j * 1]'(by omega) = x := by
    have := List.getElem?_eq_getElem hj
    rw [this] at hx; cases hx
    congr 1; omega
  rw [this]

theorem known_c : DCall Try.prog w0 17 [] h (.bool true) h := by
  refine DCall_forget trivial (ACall_sx hmix mf17_ok mf17_b mf17_g (Nat.le_of_ble_eq_true rfl) fun hb ha => ex_in ?_)
  simp only [go_sem, mf17, ↓reduceIte, Nat.reduceEqDiff, Nat.reduceAdd, Nat.reduceSub, Nat.reduceMul, Nat.reduceLT, Nat.reduceLeDiff, Int.reduceLE, Int.reduceLT, Int.reduceAdd, Int.reduceSub, Int.reduceMul, Int.reduceEq, Int.reduceBEq, Int.reduceBNe, Int.reduceNeg, Int.reduceToNat, reduceCtorEq]
  refine rvC_use kindX_c.v ?_
  simp only [go_sem, ↓reduceIte, Nat.reduceEqDiff, Nat.reduceAdd, Nat.reduceSub, Nat.reduceMul, Nat.reduceLT, Nat.reduceLeDiff, Int.reduceLE, Int.reduceLT, Int.reduceAdd, Int.reduceSub, Int.reduceMul, Int.reduceEq, Int.reduceBEq, Int.reduceBNe, Int.reduceNeg, Int.reduceToNat, reduceCtorEq]
  refine rvC_use (dayX_c _).v ?_
  simp only [go_sem, ↓reduceIte, Nat.reduceEqDiff, Nat.reduceAdd, Nat.reduceSub, Nat.reduceMul, Nat.reduceLT, Nat.reduceLeDiff, Int.reduceLE, Int.reduceLT, Int.reduceAdd, Int.reduceSub, Int.reduceMul, Int.reduceEq, Int.reduceBEq, Int.reduceBNe, Int.reduceNeg, Int.reduceToNat, reduceCtorEq]
  refine rvC_use (exGrow ▸ Grow_c kindX noWear (dayX true)).v ?_
  simp only [go_sem, ↓reduceIte, Nat.reduceEqDiff, Nat.reduceAdd, Nat.reduceSub, Nat.reduceMul, Nat.reduceLT, Nat.reduceLeDiff, Int.reduceLE, Int.reduceLT, Int.reduceAdd, Int.reduceSub, Int.reduceMul, Int.reduceEq, Int.reduceBEq, Int.reduceBNe, Int.reduceNeg, Int.reduceToNat, reduceCtorEq]
  obtain ⟨H0, eH0⟩ : ∃ H0 : Heap, H0 = h ++ [some (.row [.int .i64 200, .int .i64 250, .int .i64 6, .int .i64 8, .int .i64 4, .int .i64 12])] := ⟨_, rfl⟩
  have s0 : HSub h H0 := eH0 ▸ HSub.refl.app
  have g0 : H0[h.length]? = some (some (.row [.int .i64 200, .int .i64 250, .int .i64 6, .int .i64 8, .int .i64 4, .int .i64 12])) := by rw [eH0, List.getElem?_append_right (Nat.le_refl _)]; simp
  rw [← eH0]
  refine rvC_use bayX_c.v ?_
  have R0 := bayX_R (w0 := w0) (h := H0)
  have s1 : HSub H0 (H0 ++ bayXh H0.length) := HSub.refl.app
  generalize bayXv H0.length = v at R0 ⊢
  generalize H0 ++ bayXh H0.length = H1 at R0 s1 ⊢
  simp only [go_sem, ↓reduceIte, Nat.reduceEqDiff, Nat.reduceAdd, Nat.reduceSub, Nat.reduceMul, Nat.reduceLT, Nat.reduceLeDiff, Int.reduceLE, Int.reduceLT, Int.reduceAdd, Int.reduceSub, Int.reduceMul, Int.reduceEq, Int.reduceBEq, Int.reduceBNe, Int.reduceNeg, Int.reduceToNat, reduceCtorEq]
  refine rvC_use (exLasts ▸ Lasts_c bayX v 0 (-1) R0).v ?_
  simp only [go_sem, ↓reduceIte, Nat.reduceEqDiff, Nat.reduceAdd, Nat.reduceSub, Nat.reduceMul, Nat.reduceLT, Nat.reduceLeDiff, Int.reduceLE, Int.reduceLT, Int.reduceAdd, Int.reduceSub, Int.reduceMul, Int.reduceEq, Int.reduceBEq, Int.reduceBNe, Int.reduceNeg, Int.reduceToNat, reduceCtorEq]
  refine rvC_use bayX_c.v ?_
  have R1 := bayX_R (w0 := w0) (h := H1)
  have s2 : HSub H1 (H1 ++ bayXh H1.length) := HSub.refl.app
  generalize bayXv H1.length = v1 at R1 ⊢
  generalize H1 ++ bayXh H1.length = H2 at R1 s2 ⊢
  simp only [go_sem, ↓reduceIte, Nat.reduceEqDiff, Nat.reduceAdd, Nat.reduceSub, Nat.reduceMul, Nat.reduceLT, Nat.reduceLeDiff, Int.reduceLE, Int.reduceLT, Int.reduceAdd, Int.reduceSub, Int.reduceMul, Int.reduceEq, Int.reduceBEq, Int.reduceBNe, Int.reduceNeg, Int.reduceToNat, reduceCtorEq]
  refine rvC_post (ACall.vc (first := []) (args := [.agg (bayC bayX v1)]) (Plan_c bayX v1 R1)) ?_
  rintro y H3 ⟨s3, hK⟩
  rw [if_pos exBay, if_pos exOk, exPlan] at hK
  obtain ⟨pv, rfl, hp⟩ := hK
  simp only [go_sem, ↓reduceIte, Nat.reduceEqDiff, Nat.reduceAdd, Nat.reduceSub, Nat.reduceMul, Nat.reduceLT, Nat.reduceLeDiff, Int.reduceLE, Int.reduceLT, Int.reduceAdd, Int.reduceSub, Int.reduceMul, Int.reduceEq, Int.reduceBEq, Int.reduceBNe, Int.reduceNeg, Int.reduceToNat, reduceCtorEq]
  refine rvC_use bayX_c.v ?_
  have R2 := bayX_R (w0 := w0) (h := H3)
  have s4 : HSub H3 (H3 ++ bayXh H3.length) := HSub.refl.app
  generalize bayXv H3.length = v2 at R2 ⊢
  generalize H3 ++ bayXh H3.length = H4 at R2 s4 ⊢
  simp only [go_sem, ↓reduceIte, Nat.reduceEqDiff, Nat.reduceAdd, Nat.reduceSub, Nat.reduceMul, Nat.reduceLT, Nat.reduceLeDiff, Int.reduceLE, Int.reduceLT, Int.reduceAdd, Int.reduceSub, Int.reduceMul, Int.reduceEq, Int.reduceBEq, Int.reduceBNe, Int.reduceNeg, Int.reduceToNat, reduceCtorEq]
  obtain ⟨H5, eH5⟩ : ∃ H5 : Heap, H5 = H4 ++ [some (.row [.int .i64 0]), some (.row [.nilS, .sl (.own H4.length 0) 1 1 true, .nilS, .nilS, .nilS, .nilS])] := ⟨_, rfl⟩
  have s5 : HSub H4 H5 := eH5 ▸ HSub.refl.app
  have q5 : LL w0 H5 (.sl (.own (H4.length + 1) 0) 6 1 true) [[], [0], [], [], [], []] := by
    refine planX_LL [[], [0], [], [], [], []] (i := H4.length + 1) (vs := [.nilS, .sl (.own H4.length 0) 1 1 true, .nilS, .nilS, .nilS, .nilS]) (by rw [eH5, List.getElem?_append_right (by omega)]; simp) rfl ?_
    have s1 := Sl_lit (w0 := w0) (h := H4) (L := [some (.row [.int .i64 0]), some (.row [.nilS, .sl (.own H4.length 0) 1 1 true, .nilS, .nilS, .nilS, .nilS])]) [[.int .i64 0]] (es := 1) true 0 rfl (by simp)
    intro j x q hx hq
    match j with
    | 0 => cases hx; cases hq; exact .inl ⟨rfl, rfl⟩
    | 1 => cases hx; cases hq; rw [eH5]; exact s1
    | 2 => cases hx; cases hq; exact .inl ⟨rfl, rfl⟩
    | 3 => cases hx; cases hq; exact .inl ⟨rfl, rfl⟩
    | 4 => cases hx; cases hq; exact .inl ⟨rfl, rfl⟩
    | 5 => cases hx; cases hq; exact .inl ⟨rfl, rfl⟩
    | n + 6 => simp at hx
  rw [← eH5]
  refine rvC_use (exRight ▸ Right_c bayX v2 [[], [0], [], [], [], []] _ (R2.sub s5) q5 (by decide) (by decide)).v ?_
  simp only [go_sem, ↓reduceIte, Nat.reduceEqDiff, Nat.reduceAdd, Nat.reduceSub, Nat.reduceMul, Nat.reduceLT, Nat.reduceLeDiff, Int.reduceLE, Int.reduceLT, Int.reduceAdd, Int.reduceSub, Int.reduceMul, Int.reduceEq, Int.reduceBEq, Int.reduceBNe, Int.reduceNeg, Int.reduceToNat, reduceCtorEq]
  obtain ⟨H6, eH6⟩ : ∃ H6 : Heap, H6 = H5 ++ [some (.row [.int .i64 3, .int .i64 5, .int .i64 0])] := ⟨_, rfl⟩
  have s6 : HSub H5 H6 := eH6 ▸ HSub.refl.app
  have g6 : H6[H5.length]? = some (some (.row [.int .i64 3, .int .i64 5, .int .i64 0])) := by rw [eH6, List.getElem?_append_right (Nat.le_refl _)]; simp
  rw [← eH6]
  refine rvC_use bayX_c.v ?_
  have R3 := bayX_R (w0 := w0) (h := H6)
  have s7 : HSub H6 (H6 ++ bayXh H6.length) := HSub.refl.app
  generalize bayXv H6.length = v3 at R3 ⊢
  generalize H6 ++ bayXh H6.length = H7 at R3 s7 ⊢
  simp only [go_sem, ↓reduceIte, Nat.reduceEqDiff, Nat.reduceAdd, Nat.reduceSub, Nat.reduceMul, Nat.reduceLT, Nat.reduceLeDiff, Int.reduceLE, Int.reduceLT, Int.reduceAdd, Int.reduceSub, Int.reduceMul, Int.reduceEq, Int.reduceBEq, Int.reduceBNe, Int.reduceNeg, Int.reduceToNat, reduceCtorEq]
  refine rvC_post (ACall.vc (first := []) (args := [.agg (bayC bayX v3)]) (Proof_c bayX v3 R3)) ?_
  rintro y H8 (⟨hc, _⟩ | ⟨_, x8, rfl, hS, L8, eH8⟩)
  · rw [exBay] at hc; cases hc
  rw [exProof] at hS
  have s8 : HSub H7 H8 := eH8 ▸ HSub.refl.app
  have t8 : HSub H6 H8 := s7.trans s8
  have t5 : HSub H3 H8 := s4.trans (s5.trans (s6.trans t8))
  have t0 : HSub H0 H8 := s1.trans (s2.trans (s3.trans t5))
  have th : HSub h H8 := s0.trans t0
  have r0 : ∀ L, (H8 ++ L)[h.length]? = some (some (.row [.int .i64 200, .int .i64 250, .int .i64 6, .int .i64 8, .int .i64 4, .int .i64 12])) := fun L => getElem?_app_left (t0.2 _ _ g0)
  have r6 : ∀ L, (H8 ++ L)[H5.length]? = some (some (.row [.int .i64 3, .int .i64 5, .int .i64 0])) := fun L => getElem?_app_left (t8.2 _ _ g6)
  have hp8 := hp.sub t5
  clear g0 g6 hp R0 R1 R2 R3 q5 s0 s1 s2 s3 s4 s5 s6 s7 s8 t8 t5 t0 eH0 eH5 eH6 eH8
  have r0' := r0 []
  have r6' := r6 []
  rw [List.append_nil] at r0' r6'
  simp only [go_sem, r0, r6, r0', r6', ↓reduceIte, Nat.reduceEqDiff, Nat.reduceAdd, Nat.reduceSub, Nat.reduceMul, Nat.reduceLT, Nat.reduceLeDiff, Int.reduceLE, Int.reduceLT, Int.reduceAdd, Int.reduceSub, Int.reduceMul, Int.reduceEq, Int.reduceBEq, Int.reduceBNe, Int.reduceNeg, Int.reduceToNat, reduceCtorEq]
  obtain ⟨L9, eL9⟩ : ∃ L9 : Heap, L9 = [some (.row [.int .i64 0]), some (.row [.int .i64 1]), some (.row [.nilS, .sl (.own H8.length 0) 1 1 true, .nilS, .sl (.own (H8.length + 1) 0) 1 1 true, .nilS, .nilS])] := ⟨_, rfl⟩
  have q9 : LL w0 (H8 ++ L9) (.sl (.own (H8.length + 2) 0) 6 1 true) [[], [0], [], [1], [], []] := by
    refine planX_LL [[], [0], [], [1], [], []] (i := H8.length + 2) (vs := [.nilS, .sl (.own H8.length 0) 1 1 true, .nilS, .sl (.own (H8.length + 1) 0) 1 1 true, .nilS, .nilS]) (by rw [eL9, List.getElem?_append_right (by omega)]; simp) rfl ?_
    have s1 := Sl_lit (w0 := w0) (h := H8) (L := L9) [[.int .i64 0]] (es := 1) true 0 (by rw [eL9]; rfl) (by simp)
    have s2 := Sl_lit (w0 := w0) (h := H8) (L := L9) [[.int .i64 1]] (es := 1) true 1 (by rw [eL9]; rfl) (by simp)
    intro j x q hx hq
    match j with
    | 0 => cases hx; cases hq; exact .inl ⟨rfl, rfl⟩
    | 1 => cases hx; cases hq; exact s1
    | 2 => cases hx; cases hq; exact .inl ⟨rfl, rfl⟩
    | 3 => cases hx; cases hq; exact s2
    | 4 => cases hx; cases hq; exact .inl ⟨rfl, rfl⟩
    | 5 => cases hx; cases hq; exact .inl ⟨rfl, rfl⟩
    | n + 6 => simp at hx
  rw [← eL9]
  refine rvC_use (samePlan_c _ _ _ _ hp8.app q9 (by decide) (by decide) (by decide)).v ?_
  simp only [go_sem, r6, ↓reduceIte, Nat.reduceEqDiff, Nat.reduceAdd, Nat.reduceSub, Nat.reduceMul, Nat.reduceLT, Nat.reduceLeDiff, Int.reduceLE, Int.reduceLT, Int.reduceAdd, Int.reduceSub, Int.reduceMul, Int.reduceEq, Int.reduceBEq, Int.reduceBNe, Int.reduceNeg, Int.reduceToNat, reduceCtorEq]
  refine rvC_use (sameSpans_c [⟨0, 1⟩] [⟨0, 1⟩] _ _ hS.app (by
    have := Sl_lit (w0 := w0) (h := H8 ++ L9) (L := [some (.row [.int .i64 0, .int .i64 1])]) [[.int .i64 0, .int .i64 1]] (es := 2) true 0 rfl (by simp)
    rw [List.append_assoc, List.length_append] at this
    simpa [Span.c, eL9] using this) (by decide)).v ?_
  simp only [go_sem, ↓reduceIte, Nat.reduceEqDiff, Nat.reduceAdd, Nat.reduceSub, Nat.reduceMul, Nat.reduceLT, Nat.reduceLeDiff, Int.reduceLE, Int.reduceLT, Int.reduceAdd, Int.reduceSub, Int.reduceMul, Int.reduceEq, Int.reduceBEq, Int.reduceBNe, Int.reduceNeg, Int.reduceToNat, reduceCtorEq]
  exact th.app
end Go.Proofs.Ab

/- The own layer under the proofs of this seat, part V: what calls of the program come to on an abstract heap. No condition. -/
import Derived.Test.YtammfjjepbekaaaU
import Derived.Test.YtammfjjepbekaaaG
set_option linter.unusedSimpArgs false
set_option linter.unusedVariables false
namespace Go.Proofs.Ab
open Go Go.Proofs
variable {w0 : World} {h : Heap}
attribute [local irreducible] ACall ACallV AYield DCall DCallV rvC rdC lp rg dr ex un rv rd'

def bet (cur new : List Span) : List Span := if earlierL new cur then new else cur
def rowP (b : BayD) (t : List (List Span)) (low : Nat) : Nat → List Span
  | 0 => t.headD []
  | q + 1 => if 0 ≤ neededD b ⟨low, low + q⟩ then bet (rowP b t low q) (⟨low, low + q⟩ :: t.getD q []) else rowP b t low q
def tblP (b : BayD) (n : Nat) : Nat → List (List Span)
  | 0 => [[]]
  | m + 1 => rowP b (tblP b n m) (n - 1 - m) (m + 1) :: tblP b n m
def proofD (b : BayD) : List Span := (tblP b b.days.length b.days.length).headD []

theorem tblP_len (b : BayD) (n m : Nat) : (tblP b n m).length = m + 1 := by
  induction m with
  | zero => rfl
  | succ m ih => simp [tblP, ih]
def okP (n lo : Nat) (l : List Span) : Prop := (∀ x ∈ l, (lo : Int) ≤ x.low ∧ x.low ≤ x.high ∧ x.high < n) ∧ l.length ≤ n - lo
theorem bet_ok {n lo : Nat} {a b : List Span} (ha : okP n lo a) (hb : okP n lo b) : okP n lo (bet a b) := by
  unfold bet; split <;> assumption
theorem okP_mono {n lo lo' : Nat} {a : List Span} (h : lo' ≤ lo) (ha : okP n lo a) : okP n lo' a := ⟨fun x hx => by have := ha.1 x hx; omega, by have := ha.2; omega⟩
theorem okP_tiny {n lo : Nat} {a : List Span} (hn : n ≤ 30) (ha : okP n lo a) : ∀ x ∈ a, tiny x := fun x hx => by
  have := ha.1 x hx
  simp only [tiny]; omega
theorem rowP_ok {b : BayD} {n low : Nat} {t : List (List Span)} (hlow : low < n) (ht : ∀ (j : Nat) l, t[j]? = some l → okP n (low + 1 + j) l) (htl : t.length = n - low) : ∀ q, q ≤ n - low → okP n low (rowP b t low q) := by
  intro q
  induction q with
  | zero =>
    intro _
    have : t.headD [] = t[0]'(by omega) := by cases t with
      | nil => simp at htl; omega
      | cons a l => rfl
    simp only [rowP]; rw [this]
    exact okP_mono (by omega) (ht 0 _ (List.getElem?_eq_getElem (by omega)))
  | succ q ih =>
    intro hq
    simp only [rowP]
    split
    · refine bet_ok (ih (by omega)) ?_
      have hg : t.getD q [] = t[q]'(by omega) := by simp [List.getD_eq_getElem?_getD, List.getElem?_eq_getElem (show q < t.length by omega)]
      have hk := ht q _ (List.getElem?_eq_getElem (show q < t.length by omega))
      rw [hg]
      refine ⟨fun x hx => ?_, ?_⟩
      · rcases List.mem_cons.1 hx with rfl | hx
        · simp; omega
        · have := hk.1 x hx; omega
      · have := hk.2; simp only [List.length_cons]; omega
    · exact ih (by omega)
theorem tblP_ok (b : BayD) (n : Nat) : ∀ m, m ≤ n → ∀ (j : Nat) l, (tblP b n m)[j]? = some l → okP n (n - m + j) l := by
  intro m
  induction m with
  | zero => intro _ j l h; cases j with
    | zero => simp [tblP] at h; subst h; exact ⟨by simp, by simp⟩
    | succ j => simp [tblP] at h
  | succ m ih =>
    intro hm j l h
    cases j with
    | zero =>
      simp only [tblP, List.getElem?_cons_zero, Option.some.injEq] at h
      subst h
      have := rowP_ok (b := b) (n := n) (low := n - 1 - m) (t := tblP b n m) (by omega) (fun j l hj => by rw [show n - 1 - m + 1 + j = n - m + j by omega]; exact ih (by omega) j l hj) (by rw [tblP_len]; omega) (m + 1) (by omega)
      exact okP_mono (by omega) this
    | succ j =>
      simp only [tblP, List.getElem?_cons_succ] at h
      rw [show n - (m + 1) + (j + 1) = n - m + j by omega]
      exact ih (by omega) j l h

theorem LL.sub {G H : Heap} {v : AV} {t : List (List Int)} (s : LL w0 G v t) (u : HSub G H) : LL w0 H v t := by
  obtain ⟨vs, h1, h2, h3⟩ := s.ex
  exact ⟨vs, h1, h2.sub u, fun j x l e e' => (h3 j x l e e').sub u⟩
theorem BayR.sub {G H : Heap} {b : BayD} {v : BayV} (s : BayR w0 G b v) (u : HSub G H) : BayR w0 H b v :=
  ⟨s.kinds.sub u, s.slots.sub u, s.days.sub u, s.nights.sub u, s.defs.sub u, s.len⟩

structure PInv (w0 : World) (h : Heap) (b : BayD) (v : BayV) (ib ip ir : Nat) (tv : AV) (n lo : Nat) (f : Nat → List Span) (H : Heap) (row : List AV) : Prop where
  pre : ∃ L, H = h ++ L
  b1 : H[ib]? = some (some (.row (bayC b v)))
  b2 : H[ip]? = some (some (.row (bayC b v)))
  br : H[ir]? = some (some (.row row))
  len : row.length = n + 1
  n1 : ir ≠ ib
  n2 : ir ≠ ip
  hr : h.length ≤ ir
  rB : BayR w0 (H.set ir none) b v
  rT : LL w0 (H.set ir none) tv (untilT b)
  ls : ∀ k, lo ≤ k → k ≤ n → ∃ x, row[k]? = some x ∧ Sl w0 (H.set ir none) 2 x ((f k).map Span.c) ∧ (f k = [] → x = .nilS)

section
variable {b : BayD} {v : BayV} {ib ip ir : Nat} {tv : AV} {n lo : Nat} {f : Nat → List Span} {H : Heap} {row : List AV}
theorem PInv.lt (I : PInv w0 h b v ib ip ir tv n lo f H row) : ir < H.length := get_lt I.br
theorem PInv.app (I : PInv w0 h b v ib ip ir tv n lo f H row) (L : Heap) : PInv w0 h b v ib ip ir tv n lo f (H ++ L) row := by
  have hs : (H ++ L).set ir none = H.set ir none ++ L := set_app_lt I.lt
  refine ⟨?_, getElem?_app_left I.b1, getElem?_app_left I.b2, getElem?_app_left I.br, I.len, I.n1, I.n2, I.hr, hs ▸ I.rB.app, hs ▸ I.rT.app, fun k h1 h2 => ?_⟩
  · obtain ⟨M, e⟩ := I.pre; exact ⟨M ++ L, by rw [e, List.append_assoc]⟩
  · obtain ⟨x, e1, e2, e3⟩ := I.ls k h1 h2
    exact ⟨x, e1, hs ▸ e2.app, e3⟩
theorem PInv.put (I : PInv w0 h b v ib ip ir tv n lo f H row) {k0 : Nat} {x : AV} {l : List Span} (hk : k0 ≤ n) (hx : Sl w0 (H.set ir none) 2 x (l.map Span.c)) (hx2 : l = [] → x = .nilS) {lo' : Nat} {f' : Nat → List Span} (hlo : ∀ k, lo' ≤ k → k ≠ k0 → lo ≤ k ∧ f' k = f k) (hl : f' k0 = l) :
    PInv w0 h b v ib ip ir tv n lo' f' (H.set ir (some (.row (row.set k0 x)))) (row.set k0 x) := by
  have hs : (H.set ir (some (.row (row.set k0 x)))).set ir none = H.set ir none := by rw [List.set_set]
  refine ⟨?_, by rw [List.getElem?_set_ne I.n1]; exact I.b1, by rw [List.getElem?_set_ne I.n2]; exact I.b2, by rw [List.getElem?_set_self I.lt], by simp [I.len], I.n1, I.n2, I.hr, hs ▸ I.rB, hs ▸ I.rT, fun k h1 h2 => ?_⟩
  · obtain ⟨M, e⟩ := I.pre
    refine ⟨M.set (ir - h.length) (some (.row (row.set k0 x))), ?_⟩
    rw [e, List.set_append_right _ _ I.hr]
  · rw [hs]
    by_cases e : k = k0
    · subst e
      exact ⟨x, by rw [List.getElem?_set_self (by rw [I.len]; omega)], by rw [hl]; exact hx, by rw [hl]; exact hx2⟩
    · obtain ⟨h3, h4⟩ := hlo k h1 e
      obtain ⟨y, e1, e2, e3⟩ := I.ls k h3 h2
      exact ⟨y, by rw [List.getElem?_set_ne (Ne.symm e)]; exact e1, by rw [h4]; exact e2, by rw [h4]; exact e3⟩
theorem PInv.use (I : PInv w0 h b v ib ip ir tv n lo f H row) (k : Nat) (h1 : lo ≤ k) (h2 : k ≤ n) : ∃ x, row[k]? = some x ∧ Sl w0 H 2 x ((f k).map Span.c) ∧ (f k = [] → x = .nilS) := by
  obtain ⟨x, e1, e2, e3⟩ := I.ls k h1 h2
  exact ⟨x, e1, e2.sub HSub.msk, e3⟩
end

theorem reps_1 {x : AV} {n : Nat} : reps [x] n = List.replicate n x := by
  induction n with
  | zero => rfl
  | succ n ih => rw [List.replicate_succ, ← ih]; rfl
theorem splice_1 {c : List AV} {o : Nat} {x : AV} (ho : o < c.length) : splice c o [x] = c.set o x := by
  simp only [splice, List.length_singleton]
  rw [List.set_eq_take_append_cons_drop, if_pos ho]
  simp

def O36_0n : List OD := [⟨0, [], [], []⟩, ⟨0, [], [], []⟩, ⟨0, [], [], []⟩, ⟨0, [], [], []⟩, ⟨0, [], [], []⟩, ⟨1, [0], [], []⟩, ⟨1, [], [], []⟩, ⟨3, [], [], [0]⟩, ⟨0, [], [0], []⟩, ⟨0, [], [0], []⟩, ⟨0, [], [0], []⟩, ⟨0, [], [0], []⟩, ⟨1, [0], [0], []⟩, ⟨1, [], [], []⟩, ⟨2, [], [], []⟩, ⟨0, [], [], []⟩, ⟨5, [], [], []⟩]
theorem O36_0n_ok : gdOk 0 O36_0n D36_0 B36_0 = true := by kernel_rfl
theorem O36_0n_ok2 : gdOk2 O36_0n D36_0 B36_0 = true := by kernel_rfl

def ProofK (w0 : World) (h : Heap) (b : BayD) (v : AV) (h' : Heap) : Prop :=
  (bayB b = false ∧ v = .tup [.nilS, .int .i64 2] ∧ ∃ L, h' = h ++ L) ∨ (bayB b = true ∧ ∃ x, v = .tup [x, .int .i64 0] ∧ Sl w0 h' 2 x ((proofD b).map Span.c) ∧ ∃ L, h' = h ++ L)

theorem Proof_c (b : BayD) (v : BayV) (hR : BayR w0 h b v) : ACall Try.prog w0 36 [.agg (bayC b v)] h (ProofK w0 h b) := by
  refine ACall_sx hmix mf36_ok mf36_b mf36_g (Nat.le_of_ble_eq_true rfl) fun hb ha => ex_in ?_
  have o1 := hR.kinds.one
  have o2 := hR.slots.one
  have o3 := hR.days.one
  have o4 := hR.nights.one
  have o5 := hR.defs.one
  have l2 := hR.days.use.1
  simp only [List.length_map] at l2
  simp only [go_sem, mf36, o1.1, o2.1, o3.1, o4.1, o5.1, ↓reduceIte, Nat.reduceEqDiff, Nat.reduceAdd, Nat.reduceSub, Nat.reduceMul, Nat.reduceLT, Nat.reduceLeDiff, Int.reduceLE, Int.reduceLT, Int.reduceAdd, Int.reduceSub, Int.reduceMul, Int.reduceEq, Int.reduceBEq, Int.reduceBNe, Int.reduceNeg, Int.reduceToNat, reduceCtorEq]
  refine rvC_use (bay_c b v hR.app).v ?_
  simp only [go_sem, o1.1, o2.1, o3.1, o4.1, o5.1, ↓reduceIte, Nat.reduceEqDiff, Nat.reduceAdd, Nat.reduceSub, Nat.reduceMul, Nat.reduceLT, Nat.reduceLeDiff, Int.reduceLE, Int.reduceLT, Int.reduceAdd, Int.reduceSub, Int.reduceMul, Int.reduceEq, Int.reduceBEq, Int.reduceBNe, Int.reduceNeg, Int.reduceToNat, reduceCtorEq]
  refine ⟨fun e1 => ?_, fun e1 => ?_⟩
  · exact .inl ⟨e1, rfl, _, rfl⟩
  have bs := bayB_spec e1
  have hu := until_c (w0 := w0) (h := h ++ [some (.row (bayC b v)), some (.row (bayC b v))]) b v (i := h.length + 1) (by rw [List.getElem?_append_right (by omega), Nat.add_sub_cancel_left]; rfl) hR.app e1
  refine rvC_use hu.v ?_
  have t1 : (if (0 : Int) ≤ b.days.length + 1 then some ((b.days.length : Int) + 1).toNat else none) = some (b.days.length + 1) := by
    rw [if_pos (by omega)]; rfl
  simp only [go_sem, l2, t1, ↓reduceIte, Nat.reduceEqDiff, Nat.reduceAdd, Nat.reduceSub, Nat.reduceMul, Nat.reduceLT, Nat.reduceLeDiff, Int.reduceLE, Int.reduceLT, Int.reduceAdd, Int.reduceSub, Int.reduceMul, Int.reduceEq, Int.reduceBEq, Int.reduceBNe, Int.reduceNeg, Int.reduceToNat, reduceCtorEq]
  refine ⟨(by unfold I64; omega), ⟨Nat.le_refl _, by omega⟩, ?_⟩
  obtain ⟨H0, eH0⟩ : ∃ H0, H0 = h ++ ([some (.row (bayC b v)), some (.row (bayC b v))] ++ ((untilT b).map (fun l => some (.row (ints l))) ++ [some (.row (outS (h.length + 2) b.slots.length (b.days.length + 1)))])) := ⟨_, rfl⟩
  have hT := until_LL (w0 := w0) (h := h ++ [some (.row (bayC b v)), some (.row (bayC b v))]) b e1
  rw [List.append_assoc] at hT
  simp only [List.length_append, List.length_cons, List.length_nil] at hT
  generalize etv : AV.sl (.own (h.length + (2 + b.slots.length)) 0) b.slots.length 1 false = tv
  have hT : LL w0 H0 tv (untilT b) := by rw [eH0, ← etv, ← Nat.add_assoc]; exact hT
  have hlen : h.length + ((List.map (fun l => some (Blk.row (ints l))) (untilT b)).length + 3) = H0.length := by rw [eH0]; simp
  have hrow : AV.nilS :: reps [AV.nilS] b.days.length = List.replicate (b.days.length + 1) .nilS := by
    rw [List.replicate_succ, reps_1]
  have hheap : (h ++ some (.row [v.kv, v.sv, v.dv, v.nv, .int .i64 b.most, v.fv]) :: some (.row [v.kv, v.sv, v.dv, v.nv, .int .i64 b.most, v.fv]) ::
            (List.map (fun l => some (Blk.row (ints l))) (untilT b) ++ [some (.row (outS (h.length + 2) b.slots.length (b.days.length + 1))), some (.row (AV.nilS :: reps [AV.nilS] b.days.length))])) =
      H0 ++ [some (.row (List.replicate (b.days.length + 1) .nilS))] := by
    rw [eH0, hrow]; simp [bayC]
  rw [hlen, hheap]
  have hR0 : BayR w0 H0 b v := by rw [eH0]; exact hR.app
  have hpre : ∃ L, H0 = h ++ L := ⟨_, eH0⟩
  have hi1 : H0[h.length]? = some (some (.row (bayC b v))) := by rw [eH0, List.getElem?_append_right (by omega)]; simp
  have hi2 : H0[h.length + 1]? = some (some (.row (bayC b v))) := by rw [eH0, List.getElem?_append_right (by omega)]; simp
  have hl0 : h.length ≤ H0.length := by rw [eH0]; simp
  clear hu hlen hheap eH0 hrow t1
  have q1 := get_lt hi1
  have q2 := get_lt hi2
  refine ⟨(by unfold I64; omega), ?_⟩
  have hset : (H0 ++ [some (Blk.row (List.replicate (b.days.length + 1) .nilS))]).set H0.length none = H0 ++ [none] := by
    rw [List.set_append_right _ _ (Nat.le_refl _)]; simp
  refine lp_ind (S := Nat × Heap × List AV) (F := fun s => [(1, .ptr (.own h.length 0)), (4, .ptr (.own (h.length + 1) 0)), (5, tv), (6, .sl (.own H0.length 0) (b.days.length + 1) 1 true), (7, .int .i64 ((b.days.length : Int) - 1 - s.1))])
    (H := fun s => s.2.1) (meas := fun s => b.days.length - s.1)
    (Inv := fun s => s.1 ≤ b.days.length ∧ PInv w0 h b v h.length (h.length + 1) H0.length tv b.days.length (b.days.length - s.1) (fun k => (tblP b b.days.length s.1).getD (k - (b.days.length - s.1)) []) s.2.1 s.2.2)
    (0, H0 ++ [some (.row (List.replicate (b.days.length + 1) .nilS))], List.replicate (b.days.length + 1) .nilS) ⟨Nat.zero_le _, ?_⟩ (by simp) rfl ?_
  · refine ⟨?_, getElem?_app_left hi1, getElem?_app_left hi2, by rw [List.getElem?_append_right (Nat.le_refl _)]; simp, by simp, by omega, by omega, hl0, by rw [hset]; exact hR0.app, by rw [hset]; exact hT.app, fun k h1 h2 => ?_⟩
    · obtain ⟨L, e⟩ := hpre; exact ⟨_, by rw [e, List.append_assoc]⟩
    · obtain rfl : k = b.days.length := by simp at h1; omega
      exact ⟨.nilS, by simp, by simp [tblP]; exact .inl ⟨rfl, rfl⟩, fun _ => rfl⟩
  clear hset
  rintro ⟨m, H, row⟩ ⟨hm, I⟩ ih
  simp only at hm I ih
  refine lp_step hmix L36_1_g [1, 4, 5, 6, 7] L36_1.eq_1 ?_
  by_cases hmn : m < b.days.length
  · obtain ⟨low, elow⟩ : ∃ low, low = b.days.length - 1 - m := ⟨_, rfl⟩
    have c0 : (b.days.length : Int) - 1 - m = low := by omega
    have c1 : (0 : Int) ≤ low := by omega
    have c2 : asNat (.int .i64 ((low : Int) + 1)) = some (low + 1) := by rw [show (low : Int) + 1 = ((low + 1 : Nat) : Int) by omega]; exact asNat_n
    obtain ⟨x0, x1, x2, x3⟩ := I.use (low + 1) (by omega) (by omega)
    have c3 := I.br
    have c4 := I.len
    have c5 := x2.one
    simp only [c0]
    simp only [go_sem, c1, c2, c3, x1, c4, c5.2, Nat.mul_one, splice_1, ↓reduceIte, Nat.reduceEqDiff, Nat.reduceAdd, Nat.reduceSub, Nat.reduceMul, Nat.reduceLT, Nat.reduceLeDiff, Int.reduceLE, Int.reduceLT, Int.reduceAdd, Int.reduceSub, Int.reduceMul, Int.reduceEq, Int.reduceBEq, Int.reduceBNe, Int.reduceNeg, Int.reduceToNat, reduceCtorEq]
    have c6 : row.take low ++ x0 :: row.drop (low + 1) = row.set low x0 := by rw [List.set_eq_take_append_cons_drop, if_pos (by omega)]
    rw [c6]
    refine ⟨(by unfold I64; omega), by omega, by omega, by omega, ?_⟩
    obtain ⟨t, et⟩ : ∃ t, t = tblP b b.days.length m := ⟨_, rfl⟩
    have htl : t.length = m + 1 := by rw [et, tblP_len]
    have htok : ∀ (j : Nat) l, t[j]? = some l → okP b.days.length (low + 1 + j) l := fun j l hj => by
      have := tblP_ok b b.days.length m (by omega) j l (et ▸ hj)
      rwa [show b.days.length - m = low + 1 by omega] at this
    obtain ⟨fI, efI⟩ : ∃ fI : Nat → Nat → List Span, fI = fun q k => if k = low then rowP b t low q else t.getD (k - (low + 1)) [] := ⟨_, rfl⟩
    obtain ⟨y0, y1, y2, y3⟩ := I.ls (low + 1) (by omega) (by omega)
    obtain rfl : y0 = x0 := by rw [x1] at y1; cases y1; rfl
    have hrow0 : (tblP b b.days.length m).getD (low + 1 - (b.days.length - m)) [] = rowP b t low 0 := by
      rw [show low + 1 - (b.days.length - m) = 0 by omega, ← et]
      cases t with
      | nil => simp at htl
      | cons a l => simp [rowP]
    simp only [hrow0] at y2 y3
    have J0 : PInv w0 h b v h.length (h.length + 1) H0.length tv b.days.length low (fI 0) (H.set H0.length (some (.row (row.set low y0)))) (row.set low y0) :=
      I.put (by omega) y2 y3 (fun k h1 h2 => ⟨by omega, by simp [efI, h2, ← et, show b.days.length - m = low + 1 by omega]⟩) (by simp [efI])
    clear I x1 x2 x3 y1 y2 y3 c3 c4 c5 c6 hrow0
    refine lp_ind (S := Nat × Heap × List AV) (F := fun s => [(1, .ptr (.own h.length 0)), (4, .ptr (.own (h.length + 1) 0)), (5, tv), (6, .sl (.own H0.length 0) (b.days.length + 1) 1 true), (7, .int .i64 low), (8, .int .i64 ((low : Int) + s.1))])
      (H := fun s => s.2.1) (meas := fun s => b.days.length - s.1)
      (Inv := fun s => low + s.1 ≤ b.days.length ∧ PInv w0 h b v h.length (h.length + 1) H0.length tv b.days.length low (fI s.1) s.2.1 s.2.2)
      (0, H.set H0.length (some (.row (row.set low y0))), row.set low y0) ⟨by omega, J0⟩ (by simp) rfl ?_
    clear J0
    rintro ⟨q, H, row⟩ ⟨hq, J⟩ ih2
    simp only at hq J ih2
    refine lp_step hmix L36_0_g [1, 4, 5, 6, 7, 8] L36_0.eq_1 ?_
    have b1 : ∀ L, (H ++ L)[h.length]? = some (some (.row (bayC b v))) := fun L => getElem?_app_left J.b1
    have b1' := J.b1
    have b3 : ∀ L, (H ++ L)[H0.length]? = some (some (.row row)) := fun L => getElem?_app_left J.br
    have d4 := J.len
    by_cases hqn : low + q < b.days.length
    · have d1 : (low : Int) + q < b.days.length := by omega
      simp only [go_sem, b1', l2, d1, ↓reduceIte, Nat.reduceEqDiff, Nat.reduceAdd, Nat.reduceSub, Nat.reduceMul, Nat.reduceLT, Nat.reduceLeDiff, Int.reduceLE, Int.reduceLT, Int.reduceAdd, Int.reduceSub, Int.reduceMul, Int.reduceEq, Int.reduceBEq, Int.reduceBNe, Int.reduceNeg, Int.reduceToNat, reduceCtorEq]
      refine rvC_use (needed_c b v ⟨low, (low : Int) + q⟩ tv (i := h.length + 1) (getElem?_app_left J.b2) (J.rB.sub HSub.msk).app e1 ((J.rT.sub HSub.msk).app) (Int.natCast_nonneg low) (show (low : Int) ≤ low + q by omega) d1).v ?_
      simp only [go_sem, ↓reduceIte, Nat.reduceEqDiff, Nat.reduceAdd, Nat.reduceSub, Nat.reduceMul, Nat.reduceLT, Nat.reduceLeDiff, Int.reduceLE, Int.reduceLT, Int.reduceAdd, Int.reduceSub, Int.reduceMul, Int.reduceEq, Int.reduceBEq, Int.reduceBNe, Int.reduceNeg, Int.reduceToNat, reduceCtorEq]
      refine ⟨fun e2 => ?_, fun e2 => ?_⟩
      · have hf0 : fI q low = rowP b t low q := by simp [efI]
        have hf1 : fI q (low + (q + 1)) = t.getD q [] := by simp [efI]; rw [show low + (q + 1) - (low + 1) = q by omega]
        obtain ⟨z0, z1, zM, z3⟩ := J.ls low (by omega) (by omega)
        obtain ⟨y0, y1, yM, y3⟩ := J.ls (low + (q + 1)) (by omega) (by omega)
        rw [hf0] at zM z3
        rw [hf1] at yM y3
        have y2 := yM.sub HSub.msk
        have hlt := J.lt
        have d2 : asNat (.int .i64 ((low : Int) + q + 1)) = some (low + (q + 1)) := by rw [show (low : Int) + q + 1 = ((low + (q + 1) : Nat) : Int) by omega]; exact asNat_n
        have okz : okP b.days.length low (rowP b t low q) := rowP_ok (by omega) htok (by omega) q (by omega)
        have gq : t.getD q [] = t[q]'(by omega) := by simp [List.getD_eq_getElem?_getD, List.getElem?_eq_getElem (show q < t.length by omega)]
        have oky : okP b.days.length (low + 1 + q) (t.getD q []) := by rw [gq]; exact htok q _ (List.getElem?_eq_getElem (by omega))
        have okn : okP b.days.length low (⟨low, (low : Int) + q⟩ :: t.getD q []) := by
          refine ⟨fun x hx => ?_, ?_⟩
          · rcases List.mem_cons.1 hx with rfl | hx
            · simp; omega
            · have := oky.1 x hx; omega
          · have := oky.2; simp only [List.length_cons]; omega
        have hnew : rowP b t low (q + 1) = bet (rowP b t low q) (⟨low, (low : Int) + q⟩ :: t.getD q []) := by simp only [rowP, if_pos e2]
        have c7 : ∀ x, row.take low ++ x :: row.drop (low + 1) = row.set low x := fun x => by rw [List.set_eq_take_append_cons_drop, if_pos (by omega)]
        have fin : ∀ (L : Heap) x, Sl w0 (H.set H0.length none ++ L) 2 x ((rowP b t low (q + 1)).map Span.c) → (rowP b t low (q + 1) = [] → x = .nilS) →
            PInv w0 h b v h.length (h.length + 1) H0.length tv b.days.length low (fI (q + 1)) ((H ++ L).set H0.length (some (.row (row.set low x)))) (row.set low x) := fun L x h1 h2 => by
          have hs : (H ++ L).set H0.length none = H.set H0.length none ++ L := set_app_lt hlt
          exact (J.app L).put (by omega) (by rw [hs]; exact h1) h2 (fun k h3 h4 => ⟨h3, by simp [efI, h4]⟩) (by simp [efI])
        have hbl : (H.set H0.length none).length = H.length := by simp
        have goal_ : ∀ (L : Heap) x, Sl w0 (H.set H0.length none ++ L) 2 x ((rowP b t low (q + 1)).map Span.c) → (rowP b t low (q + 1) = [] → x = .nilS) → _ := fun L x h1 h2 => ih2 (q + 1, (H ++ L).set H0.length (some (.row (row.set low x))), row.set low x) ⟨by simp only; omega, fin L x h1 h2⟩ (by simp only; omega)
        simp only [show (low : Int) + ((q + 1 : Nat) : Int) = low + q + 1 by omega] at goal_
        by_cases hnil : t.getD q [] = []
        · obtain rfl := y3 hnil
          refine dr_use hmix O36_0n [] D36_0.eq_1 O36_0n_ok O36_0n_ok2 List.nodup_nil (by simp) ?_
          simp only [go_sem, O36_0n, b3, z1, y1, d2, d4, Nat.mul_one, ↓reduceIte, Nat.reduceEqDiff, Nat.reduceAdd, Nat.reduceSub, Nat.reduceMul, Nat.reduceLT, Nat.reduceLeDiff, Int.reduceLE, Int.reduceLT, Int.reduceAdd, Int.reduceSub, Int.reduceMul, Int.reduceEq, Int.reduceBEq, Int.reduceBNe, Int.reduceNeg, Int.reduceToNat, reduceCtorEq]
          refine ⟨by omega, by omega, (by unfold I64; omega), by omega, by omega, ?_⟩
          have hB : ∀ M : Heap, M.length = H.length → Sl w0 (M ++ [some (.row [.int .i64 low, .int .i64 ((low : Int) + q)]), some (.row [.int .i64 low, .int .i64 ((low : Int) + q)])]) 2 (.sl (.own (H.length + 1) 0) 1 2 true) ([(⟨low, (low : Int) + q⟩ : Span)].map Span.c) := fun M hM => by
            rw [← hM]; exact Sl_lit [(⟨low, (low : Int) + q⟩ : Span).c] true 1 (by simp [Span.c]) (by simp [Span.c])
          rw [hnil] at okn hnew
          refine gmC_use (better_c (rowP b t low q) [⟨low, (low : Int) + q⟩] z0 (.sl (.own (H.length + 1) 0) 1 2 true) (zM.sub HSub.msk).app (hB H rfl) (okP_tiny bs.2.2.2.2.2.1 okz) (okP_tiny bs.2.2.2.2.2.1 okn) (by have := okz.2; omega) (by simp)).v ?_
          obtain ⟨x, ex⟩ : ∃ x, x = if earlierL [⟨low, (low : Int) + q⟩] (rowP b t low q) = true then .sl (.own (H.length + 1) 0) 1 2 true else z0 := ⟨_, rfl⟩
          have hx : Sl w0 (H.set H0.length none ++ [some (.row [.int .i64 low, .int .i64 ((low : Int) + q)]), some (.row [.int .i64 low, .int .i64 ((low : Int) + q)])]) 2 x ((rowP b t low (q + 1)).map Span.c) := by
            rw [hnew, ex, bet]
            split
            · exact hB _ hbl
            · exact zM.app
          have hx2 : rowP b t low (q + 1) = [] → x = .nilS := by
            rw [hnew, ex, bet]
            split
            · intro e; cases e
            · exact z3
          have xo := hx.one.2
          rw [← ex]
          simp only [go_sem, b3, d4, Nat.mul_one, xo, c7, ↓reduceIte, Nat.reduceEqDiff, Nat.reduceAdd, Nat.reduceSub, Nat.reduceMul, Nat.reduceLT, Nat.reduceLeDiff, Int.reduceLE, Int.reduceLT, Int.reduceAdd, Int.reduceSub, Int.reduceMul, Int.reduceEq, Int.reduceBEq, Int.reduceBNe, Int.reduceNeg, Int.reduceToNat, reduceCtorEq]
          exact ⟨by omega, by omega, (by unfold I64; omega), goal_ _ x hx hx2⟩
        · obtain ⟨rr, er⟩ : ∃ rr : List AV, rr = (((⟨low, (low : Int) + q⟩ : Span) :: t.getD q []).map Span.c).flatten := ⟨_, rfl⟩
          have eA : appA w0 (H ++ [some (.row [.int .i64 low, .int .i64 ((low : Int) + q)]), some (.row [.int .i64 low, .int .i64 ((low : Int) + q)])]) 2 16 (.sl (.own (H.length + 1) 0) 1 2 true) y0 =
              some (.sl (.own (H.length + 2) 0) ((t.getD q []).length + 1) 2 false, H ++ [some (.row [.int .i64 low, .int .i64 ((low : Int) + q)]), some (.row [.int .i64 low, .int .i64 ((low : Int) + q)]), some (.row rr)]) := by
            have := app_full (w0 := w0) (H := H ++ [some (.row [.int .i64 low, .int .i64 ((low : Int) + q)]), some (.row [.int .i64 low, .int .i64 ((low : Int) + q)])]) (es := 2) (b := 16) (n := 1) (old := [.int .i64 low, .int .i64 ((low : Int) + q)]) (p := .own (H.length + 1) 0) y2.app
              (by simpa using hnil) (by simp [Span.c, one]) (by simp only [go_sem, Nat.one_mul, ↓reduceIte, Nat.reduceEqDiff, Nat.reduceAdd, Nat.reduceSub, Nat.reduceMul, Nat.reduceLT, Nat.reduceLeDiff, Int.reduceLE, Int.reduceLT, Int.reduceAdd, Int.reduceSub, Int.reduceMul, Int.reduceEq, Int.reduceBEq, Int.reduceBNe, Int.reduceNeg, Int.reduceToNat, reduceCtorEq]) (by omega) (by have := oky.2; rw [List.length_map]; omega)
            rw [this, er]
            simp [Nat.add_comm 1, Span.c]
          refine dr_use hmix O36_0 [] D36_0.eq_1 O36_0_ok O36_0_ok2 List.nodup_nil (by simp) ?_
          simp only [go_sem, O36_0, b3, z1, y1, d2, d4, Nat.mul_one, eA, ↓reduceIte, Nat.reduceEqDiff, Nat.reduceAdd, Nat.reduceSub, Nat.reduceMul, Nat.reduceLT, Nat.reduceLeDiff, Int.reduceLE, Int.reduceLT, Int.reduceAdd, Int.reduceSub, Int.reduceMul, Int.reduceEq, Int.reduceBEq, Int.reduceBNe, Int.reduceNeg, Int.reduceToNat, reduceCtorEq]
          refine ⟨by omega, by omega, (by unfold I64; omega), by omega, by omega, av_bdd (N := H.length) (y2.bdd (Nat.le_refl _)) (by simp), ?_⟩
          have hB : ∀ M : Heap, M.length = H.length → Sl w0 (M ++ [some (.row [.int .i64 low, .int .i64 ((low : Int) + q)]), some (.row [.int .i64 low, .int .i64 ((low : Int) + q)]), some (.row rr)]) 2 (.sl (.own (H.length + 2) 0) ((t.getD q []).length + 1) 2 false) (((⟨low, (low : Int) + q⟩ : Span) :: t.getD q []).map Span.c) := fun M hM => by
            have := Sl_lit (w0 := w0) (h := M) (((⟨low, (low : Int) + q⟩ : Span) :: t.getD q []).map Span.c) (es := 2) false (L := [some (.row [.int .i64 low, .int .i64 ((low : Int) + q)]), some (.row [.int .i64 low, .int .i64 ((low : Int) + q)]), some (.row rr)]) 2 (by rw [er]; rfl) (by simp [Span.c])
            rw [hM, List.length_map, List.length_cons] at this
            exact this
          refine gmC_use (better_c (rowP b t low q) (⟨low, (low : Int) + q⟩ :: t.getD q []) z0 (.sl (.own (H.length + 2) 0) ((t.getD q []).length + 1) 2 false) (zM.sub HSub.msk).app (hB H rfl) (okP_tiny bs.2.2.2.2.2.1 okz) (okP_tiny bs.2.2.2.2.2.1 okn) (by have := okz.2; omega) (by have := okn.2; omega)).v ?_
          obtain ⟨x, ex⟩ : ∃ x, x = if earlierL (⟨low, (low : Int) + q⟩ :: t.getD q []) (rowP b t low q) = true then .sl (.own (H.length + 2) 0) ((t.getD q []).length + 1) 2 false else z0 := ⟨_, rfl⟩
          have hx : Sl w0 (H.set H0.length none ++ [some (.row [.int .i64 low, .int .i64 ((low : Int) + q)]), some (.row [.int .i64 low, .int .i64 ((low : Int) + q)]), some (.row rr)]) 2 x ((rowP b t low (q + 1)).map Span.c) := by
            rw [hnew, ex, bet]
            split
            · exact hB _ hbl
            · exact zM.app
          have hx2 : rowP b t low (q + 1) = [] → x = .nilS := by
            rw [hnew, ex, bet]
            split
            · intro e; cases e
            · exact z3
          have xo := hx.one.2
          rw [← ex]
          simp only [go_sem, b3, d4, Nat.mul_one, xo, c7, ↓reduceIte, Nat.reduceEqDiff, Nat.reduceAdd, Nat.reduceSub, Nat.reduceMul, Nat.reduceLT, Nat.reduceLeDiff, Int.reduceLE, Int.reduceLT, Int.reduceAdd, Int.reduceSub, Int.reduceMul, Int.reduceEq, Int.reduceBEq, Int.reduceBNe, Int.reduceNeg, Int.reduceToNat, reduceCtorEq]
          exact ⟨by omega, by omega, (by unfold I64; omega), goal_ _ x hx hx2⟩
      · refine ⟨(by unfold I64; omega), ?_⟩
        have hnew : fI (q + 1) = fI q := by
          rw [efI]; funext k
          have : ¬ 0 ≤ neededD b ⟨low, (low : Int) + q⟩ := by omega
          simp only [rowP, if_neg this]
        have := ih2 (q + 1, H ++ [some (.row [.int .i64 low, .int .i64 ((low : Int) + q)])], row) ⟨by simp only; omega, by simp only; rw [hnew]; exact J.app _⟩ (by simp only; omega)
        simp only [show (low : Int) + ((q + 1 : Nat) : Int) = low + q + 1 by omega] at this
        exact this
    · have d1 : ¬ (low : Int) + q < b.days.length := by omega
      simp only [go_sem, b1', l2, d1, ↓reduceIte, Nat.reduceEqDiff, Nat.reduceAdd, Nat.reduceSub, Nat.reduceMul, Nat.reduceLT, Nat.reduceLeDiff, Int.reduceLE, Int.reduceLT, Int.reduceAdd, Int.reduceSub, Int.reduceMul, Int.reduceEq, Int.reduceBEq, Int.reduceBNe, Int.reduceNeg, Int.reduceToNat, reduceCtorEq]
      refine ⟨(by unfold I64; omega), ?_⟩
      have := ih (m + 1, H, row) ⟨by simp only; omega, ?_⟩ (by simp only; omega)
      · simp only [show (b.days.length : Int) - 1 - ((m + 1 : Nat) : Int) = (low : Int) - 1 by omega] at this
        exact this
      · have hqm : q = m + 1 := by omega
        have hlo : b.days.length - (m + 1) = low := by omega
        simp only
        rw [hlo]
        refine ⟨J.pre, J.b1, J.b2, J.br, J.len, J.n1, J.n2, J.hr, J.rB, J.rT, fun k k1 k2 => ?_⟩
        obtain ⟨x, x1, x2, x3⟩ := J.ls k k1 k2
        have : (tblP b b.days.length (m + 1)).getD (k - low) [] = fI q k := by
          rw [efI]
          simp only [tblP]
          rw [← elow, ← et, hqm]
          by_cases e : k = low
          · subst e; simp
          · rw [if_neg e, show k - low = k - (low + 1) + 1 by omega]; simp
        rw [this]
        exact ⟨x, x1, x2, x3⟩
  · have hmn : m = b.days.length := by omega
    subst hmn
    obtain ⟨x, x1, x2, x3⟩ := I.use 0 (by omega) (by omega)
    have c3 := I.br
    have c4 := I.len
    have c0 : ¬ (0 : Int) ≤ (b.days.length : Int) - 1 - b.days.length := by omega
    simp only [go_sem, c0, c3, x1, c4, ↓reduceIte, Nat.reduceEqDiff, Nat.reduceAdd, Nat.reduceSub, Nat.reduceMul, Nat.reduceLT, Nat.reduceLeDiff, Int.reduceLE, Int.reduceLT, Int.reduceAdd, Int.reduceSub, Int.reduceMul, Int.reduceEq, Int.reduceBEq, Int.reduceBNe, Int.reduceNeg, Int.reduceToNat, reduceCtorEq]
    have e6 : proofD b = (tblP b b.days.length b.days.length).getD 0 [] := by
      rw [proofD]; cases tblP b b.days.length b.days.length <;> rfl
    exact ⟨by omega, .inr ⟨e1, x, rfl, by rw [e6]; simpa using x2, I.pre⟩⟩
end Go.Proofs.Ab

namespace Go.Proofs.Ab
open Go Go.Proofs
variable {w0 : World} {h : Heap}
attribute [local irreducible] ACall ACallV AYield DCall DCallV rvC rdC lp rg dr ex un rv rd'

theorem first_c : DCall Try.prog w0 66 [] h (.agg (ints [-1, -1, -1, -1, -1])) h := by
  refine DCall_quiet hmix mf66_ok mf66_b mf66_g (Nat.le_of_ble_eq_true rfl) (by simp [AV.bdd, AV.bdds]) fun hb ha => ex_in ?_
  simp only [go_sem, mf66, ↓reduceIte, Nat.reduceEqDiff, Nat.reduceAdd, Nat.reduceSub, Nat.reduceMul, Nat.reduceLT, Nat.reduceLeDiff, Int.reduceLE, Int.reduceLT, Int.reduceAdd, Int.reduceSub, Int.reduceMul, Int.reduceEq, Int.reduceBEq, Int.reduceBNe, Int.reduceNeg, Int.reduceToNat, reduceCtorEq]
  refine lp_step hmix L66_0_g [0, 1, 3] L66_0.eq_1 ?_
  simp only [go_sem, ↓reduceIte, Nat.reduceEqDiff, Nat.reduceAdd, Nat.reduceSub, Nat.reduceMul, Nat.reduceLT, Nat.reduceLeDiff, Int.reduceLE, Int.reduceLT, Int.reduceAdd, Int.reduceSub, Int.reduceMul, Int.reduceEq, Int.reduceBEq, Int.reduceBNe, Int.reduceNeg, Int.reduceToNat, reduceCtorEq]
  iterate 4
    refine ⟨(by unfold I64; omega), lp_step hmix L66_0_g [0, 1, 3] L66_0.eq_1 ?_⟩
    simp only [go_sem, ↓reduceIte, Nat.reduceEqDiff, Nat.reduceAdd, Nat.reduceSub, Nat.reduceMul, Nat.reduceLT, Nat.reduceLeDiff, Int.reduceLE, Int.reduceLT, Int.reduceAdd, Int.reduceSub, Int.reduceMul, Int.reduceEq, Int.reduceBEq, Int.reduceBNe, Int.reduceNeg, Int.reduceToNat, reduceCtorEq]
  refine ⟨(by unfold I64; omega), lp_step hmix L66_0_g [0, 1, 3] L66_0.eq_1 ?_⟩
  simp only [go_sem, ↓reduceIte, Nat.reduceEqDiff, Nat.reduceAdd, Nat.reduceSub, Nat.reduceMul, Nat.reduceLT, Nat.reduceLeDiff, Int.reduceLE, Int.reduceLT, Int.reduceAdd, Int.reduceSub, Int.reduceMul, Int.reduceEq, Int.reduceBEq, Int.reduceBNe, Int.reduceNeg, Int.reduceToNat, reduceCtorEq]
  rfl

def orBit (m : List Nat) (x n : Nat) : List Nat := m.set x (m.getD x 0 ||| 2 ^ n)
def lookM (n : Nat) (m : List Nat) (c : List Nat) : List Nat := c.foldl (fun m x => orBit m x n) m
def lookC (is : Nat) (n : Nat) (p : List Int) (cv : AV) (m : List Nat) : List AV := [.ptr (.own is 0), .int .i64 n] ++ ints p ++ [cv] ++ nats m

theorem orBit_len {m : List Nat} {x n : Nat} : (orBit m x n).length = m.length := by simp [orBit]
theorem lookM_len {n : Nat} {c m : List Nat} : (lookM n m c).length = m.length := by
  induction c generalizing m with
  | nil => rfl
  | cons a l ih => simp only [lookM, List.foldl_cons] at ih ⊢; rw [ih, orBit_len]
theorem orBit_lt {m : List Nat} {x n : Nat} (hn : n < 60) (hm : ∀ y ∈ m, y < 2 ^ 60) : ∀ y ∈ orBit m x n, y < 2 ^ 60 := fun y hy => by
  simp only [orBit] at hy
  rcases List.mem_or_eq_of_mem_set hy with h1 | rfl
  · exact hm y h1
  · refine Nat.or_lt_two_pow ?_ (Nat.pow_lt_pow_right (by omega) hn)
    rw [List.getD_eq_getElem?_getD]
    cases e : m[x]? with
    | none => simp
    | some z => exact hm z (List.mem_of_getElem? e)
theorem lookM_lt {n : Nat} {c m : List Nat} (hn : n < 60) (hm : ∀ y ∈ m, y < 2 ^ 60) : ∀ y ∈ lookM n m c, y < 2 ^ 60 := by
  induction c generalizing m with
  | nil => exact hm
  | cons a l ih => simp only [lookM, List.foldl_cons] at ih ⊢; exact ih (orBit_lt hn hm)
theorem lookM_snoc {n : Nat} {c m : List Nat} {a : Nat} : lookM n m (c ++ [a]) = orBit (lookM n m c) a n := by simp [lookM, List.foldl_append]
theorem take_succ' {α : Type} {l : List α} {j : Nat} (h : j < l.length) : l.take (j + 1) = l.take j ++ [l[j]] := by rw [List.take_add_one, List.getElem?_eq_getElem h]; rfl
theorem len5 {α : Type} {l : List α} (h : l.length = 5) : ∃ a b c d e, l = [a, b, c, d, e] := by
  match l, h with
  | [a, b, c, d, e], _ => exact ⟨a, b, c, d, e, rfl⟩

theorem look_c (is n : Nat) (p : List Int) (m : List Nat) (c : List Nat) (cv : AV) (hn : n < 60) (hp : p.length = 5) (hm : m.length = 5) (hc : ∀ x ∈ c, x < 5) (hcl : c.length < 1000000) (hb2 : ∀ x ∈ m, x < 2 ^ 60) (hcv : Sl w0 h 1 cv (c.map fun (x : Nat) => [.int .i64 x])) (his : is < h.length) :
    DCall Try.prog w0 67 [.ptr (.own is 0), .int .i64 n, .agg (ints p), .agg (nats m), cv] h (.ptr (.own h.length 0)) (h ++ [some (.row (lookC is n p cv (lookM n m c)))]) := by
  refine DCall_ord hmix mf67_ok mf67_b mf67_g (Nat.le_of_ble_eq_true rfl) fun hb ha => ex_in ?_
  obtain ⟨ln, q, ix, row, _⟩ := hcv.use
  simp only [List.length_map, Nat.mul_one] at ln ix row
  simp only [go_sem, mf67, ints_cells, nats_cells, ln, ↓reduceIte, Nat.reduceEqDiff, Nat.reduceAdd, Nat.reduceSub, Nat.reduceMul, Nat.reduceLT, Nat.reduceLeDiff, Int.reduceLE, Int.reduceLT, Int.reduceAdd, Int.reduceSub, Int.reduceMul, Int.reduceEq, Int.reduceBEq, Int.reduceBNe, Int.reduceNeg, Int.reduceToNat, reduceCtorEq]
  refine ⟨by simp [hp], by simp [nats_len, hm], ?_⟩
  refine lp_for (S := Unit) (fun j _ => [(0, .ptr (.own is 0)), (1, .int .i64 n), (4, cv), (7, .ptr (.own h.length 0)), (8, .ptr (.own (h.length + 1) 0)), (13, cv), (14, .int .i64 c.length), (15, .int .i64 j)])
    (fun j _ => h ++ [some (.row (ints p)), some (.row (nats (lookM n m (c.take j))))]) (fun _ _ => True) c.length () trivial rfl (by simp [lookM]) (fun j _ hj _ ih => ?_) (fun _ _ => ?_)
  · refine lp_step hmix L67_0_g [0, 1, 4, 7, 8, 13, 14, 15] L67_0.eq_1 ?_
    have e1 := ix j hj
    have e2 : ∀ L, rd w0 (h ++ L) (q.add j) = some (.int .i64 c[j]) := fun L => by
      have := rd_get (row j [.int .i64 c[j]] (by simp [hj])) (o := 0) (x := .int .i64 c[j]) rfl
      rw [show (q.add j).add 0 = q.add j by rw [Pl.add_add]; rfl] at this
      exact rd_app this
    have e3 : (j : Int) < c.length := by omega
    obtain ⟨M, eM⟩ : ∃ M, M = lookM n m (c.take j) := ⟨_, rfl⟩
    have hM5 : M.length = 5 := by rw [eM, lookM_len, hm]
    have hMb : ∀ y ∈ M, y < 2 ^ 60 := by rw [eM]; exact lookM_lt hn hb2
    have hx := hc c[j] (List.getElem_mem hj)
    have e4 : (nats M)[c[j]]? = some (.int .i64 (M[c[j]]'(by omega) : Int)) := nats_get (by omega)
    have e5 := bin_shl1 (n := n) (by omega)
    have hMx := hMb (M[c[j]]'(by omega)) (List.getElem_mem _)
    have e6 := bin_or (a := M[c[j]]'(by omega)) (b := 2 ^ n) (by omega) (by have := Nat.pow_lt_pow_right (a := 2) (by omega) hn; omega)
    have e7 : (nats M).length = 5 := by rw [nats_len, hM5]
    rw [← eM]
    simp only [go_sem, e1, e2, e3, e4, e5, e6, e7, Nat.mul_one, ↓reduceIte, Nat.reduceEqDiff, Nat.reduceAdd, Nat.reduceSub, Nat.reduceMul, Nat.reduceLT, Nat.reduceLeDiff, Int.reduceLE, Int.reduceLT, Int.reduceAdd, Int.reduceSub, Int.reduceMul, Int.reduceEq, Int.reduceBEq, Int.reduceBNe, Int.reduceNeg, Int.reduceToNat, reduceCtorEq]
    trace_state
    refine ⟨hx, hx, by omega, (by unfold I64; omega), ?_⟩
    have := ih () trivial
    rw [take_succ' hj, lookM_snoc, ← eM] at this
    have e8 : (nats M).take c[j] ++ .int .i64 ((M[c[j]]'(by omega) ||| 2 ^ n : Nat) : Int) :: (nats M).drop (c[j] + 1) = nats (orBit M c[j] n) := by
      rw [splice_r (by omega), nats_set, orBit, List.getD_eq_getElem?_getD, List.getElem?_eq_getElem (by omega)]; rfl
    rw [e8]
    exact this
  · refine lp_step hmix L67_0_g [0, 1, 4, 7, 8, 13, 14, 15] L67_0.eq_1 ?_
    have e3 : ¬ (c.length : Int) < c.length := by omega
    have o1 := hcv.one
    rw [List.take_of_length_le (Nat.le_refl _)]
    obtain ⟨p0, p1, p2, p3, p4, rfl⟩ := len5 hp
    obtain ⟨m0, m1, m2, m3, m4, eM⟩ := len5 (show (lookM n m c).length = 5 by rw [lookM_len, hm])
    rw [eM]
    simp only [nats, ints, List.map_cons, List.map_nil]
    simp only [go_sem, e3, o1.1, o1.2, ↓reduceIte, Nat.reduceEqDiff, Nat.reduceAdd, Nat.reduceSub, Nat.reduceMul, Nat.reduceLT, Nat.reduceLeDiff, Int.reduceLE, Int.reduceLT, Int.reduceAdd, Int.reduceSub, Int.reduceMul, Int.reduceEq, Int.reduceBEq, Int.reduceBNe, Int.reduceNeg, Int.reduceToNat, reduceCtorEq]
    have hi4 := shf_lt (js := [2]) his
    have hcb := hcv.bdd (Nat.le_refl _)
    have hr : AV.rens (shf h.length [2]) (lookC is n [p0, p1, p2, p3, p4] cv [m0, m1, m2, m3, m4]) = lookC is n [p0, p1, p2, p3, p4] cv [m0, m1, m2, m3, m4] := by
      simp [Fr.ren, AV.ren, AV.rens, Pl.ren, Blk.ren, shf_0, shf_a, lookC, ints, nats, hi4, AV.ren_bdd hcb]
    refine ⟨[2], _, rfl, ⟨rfl, by simp, ord_c (fun b' hb' => ?_) ord_n, ?_, by simp [AV.bdd, Pl.bdd], by simp [Fr.ren, AV.ren, AV.rens, Pl.ren, Blk.ren, shf_0, shf_a]⟩⟩
    · cases hb'
      simp only [Blk.ren, hr]
      rfl
    · simp [HBs_some, HBs_none, HBs_nil, FB_cons, FB_nil, row_bdd, AV.bdds, AV.bdd, Pl.bdd, loop_bddT, lookC, ints, nats, AV.bdd_mono (Nat.le_succ _) _ hcb]; omega
end Go.Proofs.Ab

namespace Go.Proofs.Ab
open Go Go.Proofs
variable {w0 : World} {h : Heap}
attribute [local irreducible] ACall ACallV AYield DCall DCallV rvC rdC lp rg dr ex un rv rd'

structure WorkR (w0 : World) (h : Heap) (iw is : Nat) (b : BayD) (v : BayV) (n : Nat) (p : List Int) (cv : AV) (c : List Nat) (m : List Nat) : Prop where
  bw : h[iw]? = some (some (.row (lookC is n p cv m)))
  bs : h[is]? = some (some (.row (bayC b v)))
  hR : BayR w0 h b v
  hB : bayB b = true
  hn : n < b.days.length
  hp : p.length = 5
  hm : m.length = 5
  hcv : Sl w0 h 1 cv (c.map fun (x : Nat) => [.int .i64 x])
  hc : ∀ x ∈ c, x < b.slots.length
  hpb : ∀ x ∈ p, -1 ≤ x ∧ x < n
  hcl : c.length < 1000000

section
variable {iw is n : Nat} {b : BayD} {v : BayV} {p : List Int} {cv : AV} {c m : List Nat}
theorem WorkR.app (W : WorkR w0 h iw is b v n p cv c m) (L : Heap) : WorkR w0 (h ++ L) iw is b v n p cv c m :=
  ⟨getElem?_app_left W.bw, getElem?_app_left W.bs, W.hR.app, W.hB, W.hn, W.hp, W.hm, W.hcv.app, W.hc, W.hpb, W.hcl⟩
theorem lookC_0 : (lookC is n p cv m)[0]? = some (.ptr (.own is 0)) := rfl
theorem lookC_1 : (lookC is n p cv m)[1]? = some (.int .i64 n) := rfl
theorem lookC_p (hp : p.length = 5) {s : Nat} (hs : s < 5) : (lookC is n p cv m)[2 + s]? = some (.int .i64 (p[s]'(by omega))) := by
  obtain ⟨p0, p1, p2, p3, p4, rfl⟩ := len5 hp
  match s, hs with
  | 0, _ => rfl
  | 1, _ => rfl
  | 2, _ => rfl
  | 3, _ => rfl
  | 4, _ => rfl
theorem lookC_7 (hp : p.length = 5) : (lookC is n p cv m)[7]? = some cv := by
  obtain ⟨p0, p1, p2, p3, p4, rfl⟩ := len5 hp
  rfl
theorem lookC_m (hp : p.length = 5) (hm : m.length = 5) {s : Nat} (hs : s < 5) : (lookC is n p cv m)[8 + s]? = some (.int .i64 (m[s]'(by omega) : Int)) := by
  obtain ⟨p0, p1, p2, p3, p4, rfl⟩ := len5 hp
  obtain ⟨m0, m1, m2, m3, m4, rfl⟩ := len5 hm
  match s, hs with
  | 0, _ => rfl
  | 1, _ => rfl
  | 2, _ => rfl
  | 3, _ => rfl
  | 4, _ => rfl

def ruleV (i : Int) : AV := if 0 ≤ i then .tup [.int .i64 i, .bool true] else .tup [.int .i64 0, .bool false]

def overD (b : BayD) (n : Nat) (p : List Int) : Int := idxOf (fun s => decide (lastsD Span.high b s (p.getD s 0) < n)) (List.range b.slots.length)

theorem over_c (W : WorkR w0 h iw is b v n p cv c m) : DCall Try.prog w0 110 [.ptr (.own iw 0)] h (ruleV (overD b n p)) h := by
  refine DCall_quiet hmix mf110_ok mf110_b mf110_g (Nat.le_of_ble_eq_true rfl) (by unfold ruleV; split <;> simp [AV.bdd, AV.bdds]) fun hb ha => ex_in ?_
  have bs := bayB_spec W.hB
  have bw : ∀ L, (h ++ L)[iw]? = some (some (.row (lookC is n p cv m))) := fun L => getElem?_app_left W.bw
  have bs' : ∀ L, (h ++ L)[is]? = some (some (.row (bayC b v))) := fun L => getElem?_app_left W.bs
  have l1 := W.hR.slots.use.1
  simp only [List.length_map] at l1
  have hn := W.hn
  simp only [go_sem, mf110, bw, bs', lookC_0, l1, ↓reduceIte, Nat.reduceEqDiff, Nat.reduceAdd, Nat.reduceSub, Nat.reduceMul, Nat.reduceLT, Nat.reduceLeDiff, Int.reduceLE, Int.reduceLT, Int.reduceAdd, Int.reduceSub, Int.reduceMul, Int.reduceEq, Int.reduceBEq, Int.reduceBNe, Int.reduceNeg, Int.reduceToNat, reduceCtorEq]
  refine lp_all (fun j => [(0, .ptr (.own iw 0)), (13, .int .i64 b.slots.length), (14, .int .i64 j)]) (fun j => ¬ lastsD Span.high b j (p.getD j 0) < n) b.slots.length rfl (fun j hj hall ih => ?_) (fun hall => ?_)
  · refine lp_step hmix L110_0_g [0, 13, 14] L110_0.eq_1 ?_
    have e1 : (j : Int) < b.slots.length := by omega
    have hjp : j < p.length := by have := W.hp; omega
    have e2 := lookC_p (is := is) (n := n) (p := p) (cv := cv) (m := m) W.hp (s := j) (by omega)
    have e3 : p.getD j 0 = p[j]'(by have := W.hp; omega) := by rw [List.getD_eq_getElem?_getD, List.getElem?_eq_getElem (by have := W.hp; omega)]; rfl
    have e4 := W.hpb (p[j]'(by have := W.hp; omega)) (List.getElem_mem _)
    simp only [go_sem, e1, bw, bs', lookC_0, lookC_1, e2, Nat.mul_one, ↓reduceIte, Nat.reduceEqDiff, Nat.reduceAdd, Nat.reduceSub, Nat.reduceMul, Nat.reduceLT, Nat.reduceLeDiff, Int.reduceLE, Int.reduceLT, Int.reduceAdd, Int.reduceSub, Int.reduceMul, Int.reduceEq, Int.reduceBEq, Int.reduceBNe, Int.reduceNeg, Int.reduceToNat, reduceCtorEq]
    refine ⟨by omega, ?_⟩
    refine rdC_q (lasts_c b v j p[j] _ Span.high (i := is) (bs' _) W.hR.app W.hB hj (by omega) (by omega) ⟨rfl, rfl⟩ fun sp k => (high_c sp).v).v ?_
    simp only [go_sem, bw, lookC_1, ↓reduceIte, Nat.reduceEqDiff, Nat.reduceAdd, Nat.reduceSub, Nat.reduceMul, Nat.reduceLT, Nat.reduceLeDiff, Int.reduceLE, Int.reduceLT, Int.reduceAdd, Int.reduceSub, Int.reduceMul, Int.reduceEq, Int.reduceBEq, Int.reduceBNe, Int.reduceNeg, Int.reduceToNat, reduceCtorEq]
    refine ⟨fun e => ?_, fun e => ⟨(by unfold I64; omega), ih ?_⟩⟩
    · rw [overD, idxOf_at (j := j) (by simpa using hj) (fun i hi hi2 => by simpa using hall i hi) (by simp; rw [← List.getD_eq_getElem?_getD, e3]; exact e), ruleV, if_pos (by omega)]
    · rw [e3]; omega
  · refine lp_step hmix L110_0_g [0, 13, 14] L110_0.eq_1 ?_
    have e1 : ¬ (b.slots.length : Int) < b.slots.length := by omega
    simp only [go_sem, e1, ↓reduceIte, Nat.reduceEqDiff, Nat.reduceAdd, Nat.reduceSub, Nat.reduceMul, Nat.reduceLT, Nat.reduceLeDiff, Int.reduceLE, Int.reduceLT, Int.reduceAdd, Int.reduceSub, Int.reduceMul, Int.reduceEq, Int.reduceBEq, Int.reduceBNe, Int.reduceNeg, Int.reduceToNat, reduceCtorEq]
    rw [overD, idxOf_none (fun i hi2 => by simpa using hall i (by simpa using hi2))]; rfl

theorem shut_c (W : WorkR w0 h iw is b v n p cv c m) : DCall Try.prog w0 111 [.ptr (.own iw 0)] h (.tup [.int .i64 0, .bool (decide (0 < c.length) && !(b.nights.getD n false))]) h := by
  refine DCall_quiet hmix mf111_ok mf111_b mf111_g (Nat.le_of_ble_eq_true rfl) (by simp [AV.bdd, AV.bdds]) fun hb ha => ex_in ?_
  have bs := bayB_spec W.hB
  have bw : ∀ L, (h ++ L)[iw]? = some (some (.row (lookC is n p cv m))) := fun L => getElem?_app_left W.bw
  have bs' : ∀ L, (h ++ L)[is]? = some (some (.row (bayC b v))) := fun L => getElem?_app_left W.bs
  obtain ⟨l1, q, ix, row, _⟩ := W.hR.nights.use
  have l2 := W.hcv.use.1
  simp only [List.length_map] at l1 l2 ix
  have hn := W.hn
  have e1 := ix n (by omega)
  have e2 : ∀ L, rd w0 (h ++ L) (q.add n) = some (.bool (b.nights[n]'(by omega))) := fun L => by
    have := rd_get (row n [.bool (b.nights[n]'(by omega))] (by simp)) (o := 0) (x := .bool (b.nights[n]'(by omega))) rfl
    rw [Pl.add_add, show n * 1 + 0 = n by omega] at this
    exact rd_app this
  have e3 : b.nights.getD n false = b.nights[n]'(by omega) := by rw [List.getD_eq_getElem?_getD, List.getElem?_eq_getElem (by omega)]; rfl
  rw [e3]
  simp only [go_sem, mf111, bw, bs', lookC_0, lookC_1, lookC_7 W.hp, l2, e1, e2, Nat.mul_one, ↓reduceIte, Nat.reduceEqDiff, Nat.reduceAdd, Nat.reduceSub, Nat.reduceMul, Nat.reduceLT, Nat.reduceLeDiff, Int.reduceLE, Int.reduceLT, Int.reduceAdd, Int.reduceSub, Int.reduceMul, Int.reduceEq, Int.reduceBEq, Int.reduceBNe, Int.reduceNeg, Int.reduceToNat, reduceCtorEq]
  exact ⟨fun e => by simp [show 0 < c.length by omega], fun e => by simp [show ¬ 0 < c.length by omega]⟩

theorem many_c (W : WorkR w0 h iw is b v n p cv c m) : DCall Try.prog w0 112 [.ptr (.own iw 0)] h (.tup [.int .i64 0, .bool (decide (b.most < c.length))]) h := by
  refine DCall_quiet hmix mf112_ok mf112_b mf112_g (Nat.le_of_ble_eq_true rfl) (by simp [AV.bdd, AV.bdds]) fun hb ha => ex_in ?_
  have bs := bayB_spec W.hB
  have bw : ∀ L, (h ++ L)[iw]? = some (some (.row (lookC is n p cv m))) := fun L => getElem?_app_left W.bw
  have bs' : ∀ L, (h ++ L)[is]? = some (some (.row (bayC b v))) := fun L => getElem?_app_left W.bs
  have l2 := W.hcv.use.1
  simp only [List.length_map] at l2
  simp only [go_sem, mf112, bw, bs', lookC_0, lookC_7 W.hp, l2, ↓reduceIte, Nat.reduceEqDiff, Nat.reduceAdd, Nat.reduceSub, Nat.reduceMul, Nat.reduceLT, Nat.reduceLeDiff, Int.reduceLE, Int.reduceLT, Int.reduceAdd, Int.reduceSub, Int.reduceMul, Int.reduceEq, Int.reduceBEq, Int.reduceBNe, Int.reduceNeg, Int.reduceToNat, reduceCtorEq]

def defectD (b : BayD) (n : Nat) (m : List Nat) : Int := idxOf (fun d => (d.nights.high == (n : Int)) && (m.getD d.slot.toNat 0 / 2 ^ d.nights.low.toNat == 0)) b.defs

theorem defect_c (W : WorkR w0 h iw is b v n p cv c m) : DCall Try.prog w0 113 [.ptr (.own iw 0)] h (ruleV (defectD b n m)) h := by
  refine DCall_quiet hmix mf113_ok mf113_b mf113_g (Nat.le_of_ble_eq_true rfl) (by unfold ruleV; split <;> simp [AV.bdd, AV.bdds]) fun hb ha => ex_in ?_
  have bs := bayB_spec W.hB
  have bw : ∀ L, (h ++ L)[iw]? = some (some (.row (lookC is n p cv m))) := fun L => getElem?_app_left W.bw
  have bs' : ∀ L, (h ++ L)[is]? = some (some (.row (bayC b v))) := fun L => getElem?_app_left W.bs
  obtain ⟨l3, dp, d2, d3, d4⟩ := W.hR.defs.use
  simp only [List.length_map] at l3 d2
  have hn := W.hn
  have hiw := get_lt W.bw
  simp only [go_sem, mf113, bw, bs', lookC_0, l3, ↓reduceIte, Nat.reduceEqDiff, Nat.reduceAdd, Nat.reduceSub, Nat.reduceMul, Nat.reduceLT, Nat.reduceLeDiff, Int.reduceLE, Int.reduceLT, Int.reduceAdd, Int.reduceSub, Int.reduceMul, Int.reduceEq, Int.reduceBEq, Int.reduceBNe, Int.reduceNeg, Int.reduceToNat, reduceCtorEq]
  refine lp_all (fun j => [(0, .ptr (.own iw 0)), (13, v.fv), (14, .int .i64 b.defs.length), (15, .int .i64 j)]) (fun j => ∀ hj : j < b.defs.length, ((b.defs[j].nights.high == (n : Int)) && (m.getD b.defs[j].slot.toNat 0 / 2 ^ b.defs[j].nights.low.toNat == 0)) = false) b.defs.length rfl (fun j hj hall ih => ?_) (fun hall => ?_)
  · refine lp_step hmix L113_0_g [0, 13, 14, 15] L113_0.eq_1 ?_
    have e1 : (j : Int) < b.defs.length := by omega
    have c1 := d2 j hj
    have c2 : ∀ L, rdn w0 (h ++ L) (dp.add (j * 3)) 3 = some b.defs[j].c := fun L => rdn_app (d3 j _ (by simp [hj]))
    obtain ⟨D, eD⟩ : ∃ D, D = b.defs[j] := ⟨_, rfl⟩
    have hd := bs.2.2.2.2.2.2.2.2.2.2.2.2.2 _ (List.getElem_mem hj)
    rw [← eD] at c2 hd
    simp only [defB, inB, spanB, Bool.and_eq_true, decide_eq_true_eq] at hd
    obtain ⟨ds, dn⟩ := D
    obtain ⟨dl, dh⟩ := dn
    simp only at hd
    obtain ⟨s, rfl⟩ : ∃ s : Nat, ds = s := ⟨ds.toNat, by omega⟩
    obtain ⟨l, rfl⟩ : ∃ l : Nat, dl = l := ⟨dl.toNat, by omega⟩
    have hsm : s < m.length := by have := W.hm; omega
    have e2 := lookC_m (is := is) (n := n) (p := p) (cv := cv) (m := m) W.hp W.hm (s := s) (by omega)
    have e4 := bin_shr (a := m[s]) (n := l) (by omega)
    have e5 : m.getD s 0 = m[s] := by rw [List.getD_eq_getElem?_getD, List.getElem?_eq_getElem hsm]; rfl
    simp only [go_sem, e1, c1, c2, bw, lookC_0, lookC_1, e2, e4, Nat.mul_one, ↓reduceIte, Nat.reduceEqDiff, Nat.reduceAdd, Nat.reduceSub, Nat.reduceMul, Nat.reduceLT, Nat.reduceLeDiff, Int.reduceLE, Int.reduceLT, Int.reduceAdd, Int.reduceSub, Int.reduceMul, Int.reduceEq, Int.reduceBEq, Int.reduceBNe, Int.reduceNeg, Int.reduceToNat, reduceCtorEq]
    have hfb := W.hR.defs.bdd (Nat.le_refl _)
    have key : ((b.defs[j].nights.high == (n : Int)) && (m.getD b.defs[j].slot.toNat 0 / 2 ^ b.defs[j].nights.low.toNat == 0)) = ((dh == (n : Int)) && (m[s] / 2 ^ l == 0)) := by
      rw [← eD]; simp only [Int.toNat_natCast, e5]
    have ih' : ((dh == (n : Int)) && (m[s] / 2 ^ l == 0)) = false → _ := fun hh => ih fun _ => key.trans hh
    simp only [Int.natCast_add, Int.cast_ofNat_Int] at ih'
    refine ⟨fun x1 => ⟨by omega, fun x2 => ?_, fun x2 => ⟨(by unfold I64; omega), lp_drop 0 hb (by simp [HBs_some, HBs_none, HBs_nil, FB_cons, FB_nil, row_bdd, AV.bdds, AV.bdd, Pl.bdd, loop_bddT]) (by simp [HBs_some, HBs_none, HBs_nil, FB_cons, FB_nil, row_bdd, AV.bdds, AV.bdd, Pl.bdd, loop_bddT, hfb]; omega) ?_⟩⟩, fun x1 => ⟨(by unfold I64; omega), lp_drop 0 hb (by simp [HBs_some, HBs_none, HBs_nil, FB_cons, FB_nil, row_bdd, AV.bdds, AV.bdd, Pl.bdd, loop_bddT]) (by simp [HBs_some, HBs_none, HBs_nil, FB_cons, FB_nil, row_bdd, AV.bdds, AV.bdd, Pl.bdd, loop_bddT, hfb]; omega) ?_⟩⟩
    · have x3 : m[s] / 2 ^ l = 0 := by omega
      rw [defectD, idxOf_at hj (fun i hi => hall i hi) (by rw [key, x1, x3]; simp), ruleV, if_pos (by omega)]
    · have x3 : ¬ m[s] / 2 ^ l = 0 := by omega
      exact ih' (by rw [beq_eq_false_iff_ne.2 x3, Bool.and_false])
    · exact ih' (by rw [beq_eq_false_iff_ne.2 x1, Bool.false_and])
  · refine lp_step hmix L113_0_g [0, 13, 14, 15] L113_0.eq_1 ?_
    have e1 : ¬ (b.defs.length : Int) < b.defs.length := by omega
    simp only [go_sem, e1, ↓reduceIte, Nat.reduceEqDiff, Nat.reduceAdd, Nat.reduceSub, Nat.reduceMul, Nat.reduceLT, Nat.reduceLeDiff, Int.reduceLE, Int.reduceLT, Int.reduceAdd, Int.reduceSub, Int.reduceMul, Int.reduceEq, Int.reduceBEq, Int.reduceBNe, Int.reduceNeg, Int.reduceToNat, reduceCtorEq]
    rw [defectD, idxOf_none (fun i hi2 => hall i hi2 hi2)]; rfl

def faultD (b : BayD) (n : Nat) (p : List Int) (c m : List Nat) : Option (Int × Int) :=
  if 0 ≤ overD b n p then some (2, overD b n p)
  else if (decide (0 < c.length) && !(b.nights.getD n false)) = true then some (3, 0)
  else if b.most < c.length then some (4, 0)
  else if 0 ≤ defectD b n m then some (5, defectD b n m)
  else none
def faultV (n : Nat) : Option (Int × Int) → AV
  | some (r, o) => .tup [.agg [.int .i64 n, .int .i64 r, .int .i64 o], .bool true]
  | none => .tup [.agg [.int .i64 0, .int .i64 0, .int .i64 0], .bool false]

theorem fault_c (W : WorkR w0 h iw is b v n p cv c m) : DCall Try.prog w0 68 [.ptr (.own iw 0)] h (faultV n (faultD b n p c m)) h := by
  refine DCall_quiet hmix mf68_ok mf68_b mf68_g (Nat.le_of_ble_eq_true rfl) (by unfold faultV; split <;> simp [AV.bdd, AV.bdds]) fun hb ha => ex_in ?_
  have bw : ∀ L, (h ++ L)[iw]? = some (some (.row (lookC is n p cv m))) := fun L => getElem?_app_left W.bw
  simp only [go_sem, mf68, ↓reduceIte, Nat.reduceEqDiff, Nat.reduceAdd, Nat.reduceSub, Nat.reduceMul, Nat.reduceLT, Nat.reduceLeDiff, Int.reduceLE, Int.reduceLT, Int.reduceAdd, Int.reduceSub, Int.reduceMul, Int.reduceEq, Int.reduceBEq, Int.reduceBNe, Int.reduceNeg, Int.reduceToNat, reduceCtorEq]
  refine lp_step hmix L68_0_g [0, 2, 18, 19] L68_0.eq_1 ?_
  simp only [go_sem, ↓reduceIte, Nat.reduceEqDiff, Nat.reduceAdd, Nat.reduceSub, Nat.reduceMul, Nat.reduceLT, Nat.reduceLeDiff, Int.reduceLE, Int.reduceLT, Int.reduceAdd, Int.reduceSub, Int.reduceMul, Int.reduceEq, Int.reduceBEq, Int.reduceBNe, Int.reduceNeg, Int.reduceToNat, reduceCtorEq]
  refine rvC_use (over_c (W.app _)).vc ?_
  simp only [go_sem, ↓reduceIte, Nat.reduceEqDiff, Nat.reduceAdd, Nat.reduceSub, Nat.reduceMul, Nat.reduceLT, Nat.reduceLeDiff, Int.reduceLE, Int.reduceLT, Int.reduceAdd, Int.reduceSub, Int.reduceMul, Int.reduceEq, Int.reduceBEq, Int.reduceBNe, Int.reduceNeg, Int.reduceToNat, reduceCtorEq]
  by_cases e1 : 0 ≤ overD b n p
  · simp only [ruleV, if_pos e1]
    simp only [go_sem, bw, lookC_1, ↓reduceIte, Nat.reduceEqDiff, Nat.reduceAdd, Nat.reduceSub, Nat.reduceMul, Nat.reduceLT, Nat.reduceLeDiff, Int.reduceLE, Int.reduceLT, Int.reduceAdd, Int.reduceSub, Int.reduceMul, Int.reduceEq, Int.reduceBEq, Int.reduceBNe, Int.reduceNeg, Int.reduceToNat, reduceCtorEq]
    simp only [faultD, if_pos e1, faultV, and_true]
    exact (by unfold I64; omega)
  simp only [ruleV, if_neg e1]
  simp only [go_sem, ↓reduceIte, Nat.reduceEqDiff, Nat.reduceAdd, Nat.reduceSub, Nat.reduceMul, Nat.reduceLT, Nat.reduceLeDiff, Int.reduceLE, Int.reduceLT, Int.reduceAdd, Int.reduceSub, Int.reduceMul, Int.reduceEq, Int.reduceBEq, Int.reduceBNe, Int.reduceNeg, Int.reduceToNat, reduceCtorEq]
  refine ⟨(by unfold I64; omega), lp_step hmix L68_0_g [0, 2, 18, 19] L68_0.eq_1 ?_⟩
  simp only [go_sem, ↓reduceIte, Nat.reduceEqDiff, Nat.reduceAdd, Nat.reduceSub, Nat.reduceMul, Nat.reduceLT, Nat.reduceLeDiff, Int.reduceLE, Int.reduceLT, Int.reduceAdd, Int.reduceSub, Int.reduceMul, Int.reduceEq, Int.reduceBEq, Int.reduceBNe, Int.reduceNeg, Int.reduceToNat, reduceCtorEq]
  refine rvC_use (shut_c (W.app _)).vc ?_
  simp only [go_sem, bw, lookC_1, ↓reduceIte, Nat.reduceEqDiff, Nat.reduceAdd, Nat.reduceSub, Nat.reduceMul, Nat.reduceLT, Nat.reduceLeDiff, Int.reduceLE, Int.reduceLT, Int.reduceAdd, Int.reduceSub, Int.reduceMul, Int.reduceEq, Int.reduceBEq, Int.reduceBNe, Int.reduceNeg, Int.reduceToNat, reduceCtorEq]
  refine ⟨fun e2 => ⟨(by unfold I64; omega), by simp only [faultD, if_neg e1, e2, if_true, faultV]⟩, fun e2 => ⟨(by unfold I64; omega), lp_step hmix L68_0_g [0, 2, 18, 19] L68_0.eq_1 ?_⟩⟩
  simp only [go_sem, ↓reduceIte, Nat.reduceEqDiff, Nat.reduceAdd, Nat.reduceSub, Nat.reduceMul, Nat.reduceLT, Nat.reduceLeDiff, Int.reduceLE, Int.reduceLT, Int.reduceAdd, Int.reduceSub, Int.reduceMul, Int.reduceEq, Int.reduceBEq, Int.reduceBNe, Int.reduceNeg, Int.reduceToNat, reduceCtorEq]
  refine rvC_use (many_c (W.app _)).vc ?_
  simp only [go_sem, bw, lookC_1, ↓reduceIte, Nat.reduceEqDiff, Nat.reduceAdd, Nat.reduceSub, Nat.reduceMul, Nat.reduceLT, Nat.reduceLeDiff, Int.reduceLE, Int.reduceLT, Int.reduceAdd, Int.reduceSub, Int.reduceMul, Int.reduceEq, Int.reduceBEq, Int.reduceBNe, Int.reduceNeg, Int.reduceToNat, reduceCtorEq]
  refine ⟨fun e3 => ⟨(by unfold I64; omega), by simp only [faultD, if_neg e1, e2, Bool.false_eq_true, if_false, if_pos e3, faultV]⟩, fun e3 => ⟨(by unfold I64; omega), lp_step hmix L68_0_g [0, 2, 18, 19] L68_0.eq_1 ?_⟩⟩
  simp only [go_sem, ↓reduceIte, Nat.reduceEqDiff, Nat.reduceAdd, Nat.reduceSub, Nat.reduceMul, Nat.reduceLT, Nat.reduceLeDiff, Int.reduceLE, Int.reduceLT, Int.reduceAdd, Int.reduceSub, Int.reduceMul, Int.reduceEq, Int.reduceBEq, Int.reduceBNe, Int.reduceNeg, Int.reduceToNat, reduceCtorEq]
  refine rvC_use (defect_c (W.app _)).vc ?_
  simp only [go_sem, ↓reduceIte, Nat.reduceEqDiff, Nat.reduceAdd, Nat.reduceSub, Nat.reduceMul, Nat.reduceLT, Nat.reduceLeDiff, Int.reduceLE, Int.reduceLT, Int.reduceAdd, Int.reduceSub, Int.reduceMul, Int.reduceEq, Int.reduceBEq, Int.reduceBNe, Int.reduceNeg, Int.reduceToNat, reduceCtorEq]
  by_cases e4 : 0 ≤ defectD b n m
  · simp only [ruleV, if_pos e4]
    simp only [go_sem, bw, lookC_1, ↓reduceIte, Nat.reduceEqDiff, Nat.reduceAdd, Nat.reduceSub, Nat.reduceMul, Nat.reduceLT, Nat.reduceLeDiff, Int.reduceLE, Int.reduceLT, Int.reduceAdd, Int.reduceSub, Int.reduceMul, Int.reduceEq, Int.reduceBEq, Int.reduceBNe, Int.reduceNeg, Int.reduceToNat, reduceCtorEq]
    exact ⟨(by unfold I64; omega), by simp only [faultD, if_neg e1, e2, Bool.false_eq_true, if_false, if_neg (show ¬ b.most < c.length by omega), if_pos e4, faultV]⟩
  simp only [ruleV, if_neg e4]
  simp only [go_sem, ↓reduceIte, Nat.reduceEqDiff, Nat.reduceAdd, Nat.reduceSub, Nat.reduceMul, Nat.reduceLT, Nat.reduceLeDiff, Int.reduceLE, Int.reduceLT, Int.reduceAdd, Int.reduceSub, Int.reduceMul, Int.reduceEq, Int.reduceBEq, Int.reduceBNe, Int.reduceNeg, Int.reduceToNat, reduceCtorEq]
  refine ⟨(by unfold I64; omega), lp_step hmix L68_0_g [0, 2, 18, 19] L68_0.eq_1 ?_⟩
  simp only [go_sem, ↓reduceIte, Nat.reduceEqDiff, Nat.reduceAdd, Nat.reduceSub, Nat.reduceMul, Nat.reduceLT, Nat.reduceLeDiff, Int.reduceLE, Int.reduceLT, Int.reduceAdd, Int.reduceSub, Int.reduceMul, Int.reduceEq, Int.reduceBEq, Int.reduceBNe, Int.reduceNeg, Int.reduceToNat, reduceCtorEq]
  simp only [faultD, if_neg e1, e2, Bool.false_eq_true, if_false, if_neg (show ¬ b.most < c.length by omega), if_neg e4, faultV]

def putD (n : Nat) (p : List Int) (c : List Nat) : List Int := c.foldl (fun p x => p.set x n) p

theorem lookC_len (hp : p.length = 5) (hm : m.length = 5) : (lookC is n p cv m).length = 13 := by simp [lookC, nats_len, hp, hm]
theorem lookC_ps (hp : p.length = 5) : ((lookC is n p cv m).drop 2).take 5 = ints p := by
  obtain ⟨p0, p1, p2, p3, p4, rfl⟩ := len5 hp; rfl
theorem lookC_ms (hp : p.length = 5) (hm : m.length = 5) : ((lookC is n p cv m).drop 8).take 5 = nats m := by
  obtain ⟨p0, p1, p2, p3, p4, rfl⟩ := len5 hp
  obtain ⟨m0, m1, m2, m3, m4, rfl⟩ := len5 hm; rfl
theorem nats_bdd {N : Nat} {l : List Nat} : AV.bdds N (nats l) := by
  rw [bdds_iff]; intro x hx; simp only [nats, List.mem_map] at hx; obtain ⟨z, _, rfl⟩ := hx; trivial
theorem nats_one {l : List Nat} : (nats l).all one = true := by simp [nats, one]
theorem putD_len {c : List Nat} {n : Nat} {p : List Int} : (putD n p c).length = p.length := by
  induction c generalizing p with
  | nil => rfl
  | cons a l ih => simp only [putD, List.foldl_cons] at ih ⊢; rw [ih]; simp
theorem putD_snoc {n : Nat} {c : List Nat} {p : List Int} {a : Nat} : putD n p (c ++ [a]) = (putD n p c).set a n := by simp [putD, List.foldl_append]

theorem change_c (W : WorkR w0 h iw is b v n p cv c m) : DCall Try.prog w0 69 [.ptr (.own iw 0)] h (.tup [.agg (ints (putD n p c)), .agg (nats m)]) h := by
  refine DCall_quiet hmix mf69_ok mf69_b mf69_g (Nat.le_of_ble_eq_true rfl) (by simp [AV.bdd, AV.bdds, nats_bdd]) fun hb ha => ex_in ?_
  have bs := bayB_spec W.hB
  have bw : ∀ L, (h ++ L)[iw]? = some (some (.row (lookC is n p cv m))) := fun L => getElem?_app_left W.bw
  have hiw := get_lt W.bw
  obtain ⟨ln, q, ix, row, _⟩ := W.hcv.use
  simp only [List.length_map, Nat.mul_one] at ln ix row
  have hcl := W.hcl
  have hcb := W.hcv.bdd (Nat.le_refl _)
  simp only [go_sem, mf69, bw, lookC_7 W.hp, ln, lookC_len W.hp W.hm, lookC_ps W.hp, ints_one, ints_len, W.hp, ↓reduceIte, Nat.reduceEqDiff, Nat.reduceAdd, Nat.reduceSub, Nat.reduceMul, Nat.reduceLT, Nat.reduceLeDiff, Int.reduceLE, Int.reduceLT, Int.reduceAdd, Int.reduceSub, Int.reduceMul, Int.reduceEq, Int.reduceBEq, Int.reduceBNe, Int.reduceNeg, Int.reduceToNat, reduceCtorEq]
  refine lp_for (S := Unit) (fun j _ => [(0, .ptr (.own iw 0)), (2, .ptr (.own h.length 0)), (3, .ptr (.own (h.length + 1) 0)), (4, .ptr (.own (h.length + 2) 0)), (14, cv), (15, .int .i64 c.length), (16, .int .i64 j)])
    (fun j _ => h ++ [some (.row [.int .i64 0, .int .i64 0, .int .i64 0, .int .i64 0, .int .i64 0]), some (.row [.int .i64 0, .int .i64 0, .int .i64 0, .int .i64 0, .int .i64 0]), some (.row (ints (putD n p (c.take j))))]) (fun _ _ => True) c.length () trivial rfl (by simp [putD]) (fun j _ hj _ ih => ?_) (fun _ _ => ?_)
  · refine lp_step hmix L69_0_g [0, 2, 3, 4, 14, 15, 16] L69_0.eq_1 ?_
    have e1 := ix j hj
    have e2 : ∀ L, rd w0 (h ++ L) (q.add j) = some (.int .i64 c[j]) := fun L => by
      have := rd_get (row j [.int .i64 c[j]] (by simp [hj])) (o := 0) (x := .int .i64 c[j]) rfl
      rw [show (q.add j).add 0 = q.add j by rw [Pl.add_add]; rfl] at this
      exact rd_app this
    have e3 : (j : Int) < c.length := by omega
    obtain ⟨M, eM⟩ : ∃ M, M = putD n p (c.take j) := ⟨_, rfl⟩
    have hM5 : M.length = 5 := by rw [eM, putD_len, W.hp]
    have hx := W.hc c[j] (List.getElem_mem hj)
    have e7 : (ints M).length = 5 := by rw [ints_len, hM5]
    rw [← eM]
    simp only [go_sem, e1, e2, e3, e7, bw, lookC_1, Nat.mul_one, ↓reduceIte, Nat.reduceEqDiff, Nat.reduceAdd, Nat.reduceSub, Nat.reduceMul, Nat.reduceLT, Nat.reduceLeDiff, Int.reduceLE, Int.reduceLT, Int.reduceAdd, Int.reduceSub, Int.reduceMul, Int.reduceEq, Int.reduceBEq, Int.reduceBNe, Int.reduceNeg, Int.reduceToNat, reduceCtorEq]
    refine ⟨by omega, by omega, (by unfold I64; omega), ?_⟩
    have := ih () trivial
    rw [take_succ' hj, putD_snoc, ← eM] at this
    rw [splice_r (by omega), ints_set]
    exact this
  · refine lp_step hmix L69_0_g [0, 2, 3, 4, 14, 15, 16] L69_0.eq_1 ?_
    have e3 : ¬ (c.length : Int) < c.length := by omega
    rw [List.take_of_length_le (Nat.le_refl _)]
    simp only [go_sem, e3, ↓reduceIte, Nat.reduceEqDiff, Nat.reduceAdd, Nat.reduceSub, Nat.reduceMul, Nat.reduceLT, Nat.reduceLeDiff, Int.reduceLE, Int.reduceLT, Int.reduceAdd, Int.reduceSub, Int.reduceMul, Int.reduceEq, Int.reduceBEq, Int.reduceBNe, Int.reduceNeg, Int.reduceToNat, reduceCtorEq]
    refine dr_use hmix O69_0 [h.length] D69_0.eq_1 O69_0_ok O69_0_ok2 (by simp) (by simp) ?_
    have hP5 : (putD n p c).length = 5 := by rw [putD_len, W.hp]
    have hne : ¬ iw = h.length := by omega
    have hm5 : (nats m).take 5 = nats m := List.take_of_length_le (by rw [nats_len, W.hm]; exact Nat.le_refl _)
    have ht5 : (ints (putD n p c)).take 5 = ints (putD n p c) := List.take_of_length_le (by rw [ints_len, hP5]; exact Nat.le_refl _)
    simp only [go_sem, O69_0, bw, ints_len, hP5, lookC_len W.hp W.hm, lookC_ms W.hp W.hm, ints_one, nats_one, nats_len, W.hm, hne, List.getD_cons_zero, ht5, hm5, List.append_nil, Nat.le_refl, ↓reduceIte, Nat.reduceEqDiff, Nat.reduceAdd, Nat.reduceSub, Nat.reduceMul, Nat.reduceLT, Nat.reduceLeDiff, Int.reduceLE, Int.reduceLT, Int.reduceAdd, Int.reduceSub, Int.reduceMul, Int.reduceEq, Int.reduceBEq, Int.reduceBNe, Int.reduceNeg, Int.reduceToNat, reduceCtorEq]
end
end Go.Proofs.Ab

namespace Go.Proofs.Ab
open Go Go.Proofs
variable {w0 : World} {h : Heap}
attribute [local irreducible] ACall ACallV AYield DCall DCallV rvC rdC lp rg dr ex un rv rd'

def choiceK (b : BayD) (l : List Int) (k : Nat) : Bool := inB (l.getD k 0) 0 (b.slots.length - 1) && !(decide (0 < k) && decide (l.getD k 0 ≤ l.getD (k - 1) 0))
def choiceB (b : BayD) (l : List Int) : Bool := (List.range l.length).all (choiceK b l)
def planB (b : BayD) (t : List (List Int)) : Bool := (t.length == b.days.length) && t.all (choiceB b)
def rightG (b : BayD) : Nat → List Int → List Nat → List (List Int) → Int × Int × Int
  | _, _, _, [] => (0, 1, 0)
  | n, p, m, l :: t => match faultD b n p (l.map Int.toNat) (lookM n m (l.map Int.toNat)) with
    | some (r, o) => (n, r, o)
    | none => rightG b (n + 1) (putD n p (l.map Int.toNat)) (lookM n m (l.map Int.toNat)) t
def rightD (b : BayD) (t : List (List Int)) : Int × Int × Int := rightG b 0 [-1, -1, -1, -1, -1] [0, 0, 0, 0, 0] t
def RightV (b : BayD) (t : List (List Int)) : AV :=
  if bayB b && planB b t then .tup [.agg [.int .i64 (rightD b t).1, .int .i64 (rightD b t).2.1, .int .i64 (rightD b t).2.2], .int .i64 0]
  else .tup [.agg [.int .i64 0, .int .i64 0, .int .i64 0], .int .i64 2]

theorem LL.list {v : AV} {t : List (List Int)} (s : LL w0 h v t) {a : Nat} (ha : a < t.length) : ∃ (p : Pl) (x : AV), idxsV 1 v (some a) = some (.ptr p) ∧ (∀ L, rd w0 (h ++ L) p = some x) ∧ Sl w0 h 1 x (t[a].map fun z => [.int .i64 z]) := by
  obtain ⟨vs, h1, h2, h3⟩ := s.ex
  obtain ⟨p, p1, p2⟩ := h2.lt (j := a) (by simpa [h1] using ha)
  obtain ⟨x, hx⟩ : ∃ x, vs[a]? = some x := ⟨_, List.getElem?_eq_getElem (by omega)⟩
  refine ⟨p, x, p1, fun L => ?_, h3 a x t[a] hx (List.getElem?_eq_getElem ha)⟩
  have := p2 L [x] (by simp [hx])
  have := rd_get this (o := 0) (x := x) rfl
  rwa [show p.add 0 = p by cases p <;> simp [Pl.add, Addr.add]] at this
theorem LL.len {v : AV} {t : List (List Int)} (s : LL w0 h v t) : lenV v = some (.int .i64 t.length) := by
  obtain ⟨vs, h1, h2, h3⟩ := s.ex
  have := h2.use.1
  rwa [List.length_map, h1] at this

theorem choiceB_nat {b : BayD} {l : List Int} (hl : choiceB b l = true) : (∀ x ∈ l, 0 ≤ x ∧ x < b.slots.length) := fun x hx => by
  obtain ⟨k, hk, rfl⟩ := List.getElem_of_mem hx
  simp only [choiceB, List.all_eq_true, List.mem_range] at hl
  have := hl k hk
  simp only [choiceK, inB, Bool.and_eq_true, decide_eq_true_eq, List.getD_eq_getElem?_getD, List.getElem?_eq_getElem hk, Option.getD_some] at this
  omega

theorem putD_bd {n : Nat} {c : List Nat} {p : List Int} (hp : ∀ x ∈ p, -1 ≤ x ∧ x < n) : ∀ x ∈ putD n p c, -1 ≤ x ∧ x < ((n + 1 : Nat) : Int) := by
  have key : ∀ (c : List Nat) (p : List Int), (∀ x ∈ p, -1 ≤ x ∧ x < ((n + 1 : Nat) : Int)) → ∀ x ∈ putD n p c, -1 ≤ x ∧ x < ((n + 1 : Nat) : Int) := by
    intro c
    induction c with
    | nil => exact fun p hp => hp
    | cons a l ih =>
      intro p hp
      simp only [putD, List.foldl_cons] at ih ⊢
      refine ih _ fun x hx => ?_
      rcases List.mem_or_eq_of_mem_set hx with h1 | rfl
      · exact hp x h1
      · omega
  exact key c p fun x hx => by have := hp x hx; omega

theorem Right_c (b : BayD) (v : BayV) (t : List (List Int)) (pv : AV) (hR : BayR w0 h b v) (hP : LL w0 h pv t) (htl : t.length < 1000000) (hll : ∀ l ∈ t, l.length < 1000000) :
    DCall Try.prog w0 21 [.agg (bayC b v), pv] h (RightV b t) h := by
  refine DCall_quiet hmix mf21_ok mf21_b mf21_g (Nat.le_of_ble_eq_true rfl) (by unfold RightV; split <;> simp [AV.bdd, AV.bdds]) fun hb ha => ex_in ?_
  have o1 := hR.kinds.one
  have o2 := hR.slots.one
  have o3 := hR.days.one
  have o4 := hR.nights.one
  have o5 := hR.defs.one
  have l1 := hR.slots.use.1
  have l2 := hR.days.use.1
  have l3 := hR.len
  simp only [List.length_map] at l1 l2
  have lpv := hP.len
  have hpb := hP.bdd (Nat.le_refl _)
  simp only [go_sem, mf21, o1.1, o2.1, o3.1, o4.1, o5.1, ↓reduceIte, Nat.reduceEqDiff, Nat.reduceAdd, Nat.reduceSub, Nat.reduceMul, Nat.reduceLT, Nat.reduceLeDiff, Int.reduceLE, Int.reduceLT, Int.reduceAdd, Int.reduceSub, Int.reduceMul, Int.reduceEq, Int.reduceBEq, Int.reduceBNe, Int.reduceNeg, Int.reduceToNat, reduceCtorEq]
  refine rvC_use (bay_c b v hR.app).v ?_
  simp only [go_sem, lpv, l2, ↓reduceIte, Nat.reduceEqDiff, Nat.reduceAdd, Nat.reduceSub, Nat.reduceMul, Nat.reduceLT, Nat.reduceLeDiff, Int.reduceLE, Int.reduceLT, Int.reduceAdd, Int.reduceSub, Int.reduceMul, Int.reduceEq, Int.reduceBEq, Int.reduceBNe, Int.reduceNeg, Int.reduceToNat, reduceCtorEq]
  refine ⟨fun e1 => ?_, fun e1 => by simp [RightV, e1]⟩
  refine ⟨fun e2 => by simp [RightV, planB, show ¬ t.length = b.days.length by omega], fun e2 => ?_⟩
  refine lp_all (fun j => [(1, pv), (2, .ptr (.own h.length 0)), (4, .ptr (.own (h.length + 1) 0)), (30, pv), (31, .int .i64 t.length), (32, .int .i64 j)]) (fun j => ∀ hj : j < t.length, choiceB b t[j] = true) t.length rfl (fun j hj hall ih => ?_) (fun hall => ?_)
  · refine lp_step hmix L21_1_g [1, 2, 4, 30, 31, 32] L21_1.eq_1 ?_
    have e3 : (j : Int) < t.length := by omega
    obtain ⟨p, x, a1, a2, a3⟩ := hP.list hj
    have l4 := a3.use.1
    rw [List.length_map] at l4
    have hlj := hll _ (List.getElem_mem hj)
    simp only [go_sem, e3, a1, a2, l4, ↓reduceIte, Nat.reduceEqDiff, Nat.reduceAdd, Nat.reduceSub, Nat.reduceMul, Nat.reduceLT, Nat.reduceLeDiff, Int.reduceLE, Int.reduceLT, Int.reduceAdd, Int.reduceSub, Int.reduceMul, Int.reduceEq, Int.reduceBEq, Int.reduceBNe, Int.reduceNeg, Int.reduceToNat, reduceCtorEq]
    obtain ⟨l, el⟩ : ∃ l, l = t[j] := ⟨_, rfl⟩
    simp only [← el] at a3 l4 hlj ⊢
    have hbad : ∀ k, k < l.length → choiceK b l k = false → RightV b t = .tup [.agg [.int .i64 0, .int .i64 0, .int .i64 0], .int .i64 2] := fun k hk e => by
      have h1 : choiceB b l = false := by
        simp only [choiceB]
        rw [List.all_eq_false]
        exact ⟨k, List.mem_range.2 hk, by simp [e]⟩
      have h2 : t.all (choiceB b) = false := List.all_eq_false.2 ⟨l, by rw [el]; exact List.getElem_mem hj, by simp [h1]⟩
      simp [RightV, planB, h2]
    refine lp_all (fun k => [(1, pv), (2, .ptr (.own h.length 0)), (4, .ptr (.own (h.length + 1) 0)), (7, x), (30, pv), (31, .int .i64 t.length), (32, .int .i64 j), (36, x), (37, .int .i64 l.length), (38, .int .i64 k)]) (fun k => ∀ hk : k < l.length, choiceK b l k = true) l.length rfl (fun k hk hall2 ih2 => ?_) (fun hall2 => ?_)
    · refine lp_step hmix L21_0_g [1, 2, 4, 7, 30, 31, 32, 36, 37, 38] L21_0.eq_1 ?_
      have f1 : (k : Int) < l.length := by omega
      obtain ⟨_, q, ix, row, _⟩ := a3.use
      simp only [List.length_map, Nat.mul_one] at ix row
      have rdx : ∀ i (hi : i < l.length) L, rd w0 (h ++ L) (q.add i) = some (.int .i64 l[i]) := fun i hi L => by
        have := rd_get (row i [.int .i64 l[i]] (by simp [hi])) (o := 0) (x := .int .i64 l[i]) rfl
        rw [show (q.add i).add 0 = q.add i by rw [Pl.add_add]; rfl] at this
        exact rd_app this
      have gk : l.getD k 0 = l[k] := by rw [List.getD_eq_getElem?_getD, List.getElem?_eq_getElem hk]; rfl
      have i1 := ix k hk
      have i2 := rdx k hk
      simp only [go_sem, f1, i1, i2, l1, ↓reduceIte, Nat.reduceEqDiff, Nat.reduceAdd, Nat.reduceSub, Nat.reduceMul, Nat.reduceLT, Nat.reduceLeDiff, Int.reduceLE, Int.reduceLT, Int.reduceAdd, Int.reduceSub, Int.reduceMul, Int.reduceEq, Int.reduceBEq, Int.reduceBNe, Int.reduceNeg, Int.reduceToNat, reduceCtorEq]
      refine ⟨(by unfold I64; omega), ?_⟩
      refine rvC_use (in_c _ _ _).v ?_
      simp only [go_sem, ↓reduceIte, Nat.reduceEqDiff, Nat.reduceAdd, Nat.reduceSub, Nat.reduceMul, Nat.reduceLT, Nat.reduceLeDiff, Int.reduceLE, Int.reduceLT, Int.reduceAdd, Int.reduceSub, Int.reduceMul, Int.reduceEq, Int.reduceBEq, Int.reduceBNe, Int.reduceNeg, Int.reduceToNat, reduceCtorEq]
      refine ⟨fun g1 => ?_, fun g1 => by rw [hbad k hk (by simp only [choiceK, gk, g1, Bool.false_and])]⟩
      refine ⟨fun g2 => ⟨(by unfold I64; omega), ?_⟩, fun g2 => ⟨(by unfold I64; omega), ih2 fun _ => by simp only [choiceK, gk, g1, show ¬ 0 < k by omega, decide_false, Bool.false_and, Bool.not_false, Bool.and_self]⟩⟩
      have i3 := ix (k - 1) (by omega)
      have i4 := rdx (k - 1) (by omega)
      have i5 : (if (0 : Int) ≤ (k : Int) - 1 then some ((k : Int) - 1).toNat else none) = some (k - 1) := by
        rw [if_pos (by omega)]; congr 1; omega
      have gk2 : l.getD (k - 1) 0 = l[k - 1] := by rw [List.getD_eq_getElem?_getD, List.getElem?_eq_getElem (by omega)]; rfl
      simp only [go_sem, i5, i3, i4, ↓reduceIte, Nat.reduceEqDiff, Nat.reduceAdd, Nat.reduceSub, Nat.reduceMul, Nat.reduceLT, Nat.reduceLeDiff, Int.reduceLE, Int.reduceLT, Int.reduceAdd, Int.reduceSub, Int.reduceMul, Int.reduceEq, Int.reduceBEq, Int.reduceBNe, Int.reduceNeg, Int.reduceToNat, reduceCtorEq]
      refine ⟨fun g3 => by rw [hbad k hk (by simp only [choiceK, gk, gk2, g1, g3, show 0 < k by omega, decide_true, Bool.and_self, Bool.not_true, Bool.and_false])], fun g3 => ⟨(by unfold I64; omega), ih2 fun _ => ?_⟩⟩
      simp only [choiceK, gk, gk2, g1, g3, decide_false, Bool.and_false, Bool.not_false, Bool.and_self]
    · refine lp_step hmix L21_0_g [1, 2, 4, 7, 30, 31, 32, 36, 37, 38] L21_0.eq_1 ?_
      have f1 : ¬ (l.length : Int) < l.length := by omega
      simp only [go_sem, f1, ↓reduceIte, Nat.reduceEqDiff, Nat.reduceAdd, Nat.reduceSub, Nat.reduceMul, Nat.reduceLT, Nat.reduceLeDiff, Int.reduceLE, Int.reduceLT, Int.reduceAdd, Int.reduceSub, Int.reduceMul, Int.reduceEq, Int.reduceBEq, Int.reduceBNe, Int.reduceNeg, Int.reduceToNat, reduceCtorEq]
      refine ⟨(by unfold I64; omega), ih fun _ => ?_⟩
      rw [← el, choiceB, List.all_eq_true]
      exact fun k hk => hall2 k (List.mem_range.1 hk) (List.mem_range.1 hk)
  · refine lp_step hmix L21_1_g [1, 2, 4, 30, 31, 32] L21_1.eq_1 ?_
    have e3 : ¬ (t.length : Int) < t.length := by omega
    simp only [go_sem, e3, o1.1, o2.1, o3.1, o4.1, o5.1, ↓reduceIte, Nat.reduceEqDiff, Nat.reduceAdd, Nat.reduceSub, Nat.reduceMul, Nat.reduceLT, Nat.reduceLeDiff, Int.reduceLE, Int.reduceLT, Int.reduceAdd, Int.reduceSub, Int.reduceMul, Int.reduceEq, Int.reduceBEq, Int.reduceBNe, Int.reduceNeg, Int.reduceToNat, reduceCtorEq]
    refine rvC_use first_c.v ?_
    simp only [go_sem, ints_one, ints_len, lpv, List.append_nil, ↓reduceIte, Nat.reduceEqDiff, Nat.reduceAdd, Nat.reduceSub, Nat.reduceMul, Nat.reduceLT, Nat.reduceLeDiff, Int.reduceLE, Int.reduceLT, Int.reduceAdd, Int.reduceSub, Int.reduceMul, Int.reduceEq, Int.reduceBEq, Int.reduceBNe, Int.reduceNeg, Int.reduceToNat, reduceCtorEq]
    have hpl : planB b t = true := by
      simp only [planB, Bool.and_eq_true, beq_iff_eq, List.all_eq_true]
      refine ⟨by omega, fun l hl => ?_⟩
      obtain ⟨j, hj, rfl⟩ := List.getElem_of_mem hl
      exact hall j hj hj
    have hval : RightV b t = .tup [.agg [.int .i64 (rightD b t).1, .int .i64 (rightD b t).2.1, .int .i64 (rightD b t).2.2], .int .i64 0] := by simp [RightV, e1, hpl]
    rw [hval]
    have bs := bayB_spec e1
    refine lp_for (S := List Int × List Nat) (fun j _ => [(4, .ptr (.own (h.length + 1) 0)), (10, .ptr (.own (h.length + 2) 0)), (11, .ptr (.own (h.length + 3) 0)), (12, .ptr (.own (h.length + 4) 0)), (70, pv), (71, .int .i64 t.length), (72, .int .i64 j)])
      (fun j s => h ++ [some (.row (bayC b v)), some (.row [.int .i64 0, .int .i64 0, .int .i64 0]), some (.row (bayC b v)), some (.row (ints s.1)), some (.row (nats s.2))])
      (fun j s => s.1.length = 5 ∧ s.2.length = 5 ∧ (∀ x ∈ s.1, -1 ≤ x ∧ x < j) ∧ (∀ x ∈ s.2, x < 2 ^ 60) ∧ rightG b j s.1 s.2 (t.drop j) = rightD b t) t.length ([-1, -1, -1, -1, -1], [0, 0, 0, 0, 0]) ⟨rfl, rfl, by simp, by simp, rfl⟩ rfl rfl ?_ ?_
    · rintro j ⟨p, m⟩ hj ⟨hp, hm, hpb2, hmb, hg⟩ ih
      simp only at hp hm hpb2 hmb hg ih ⊢
      refine lp_step hmix L21_2_g [4, 10, 11, 12, 70, 71, 72] L21_2.eq_1 ?_
      have e3 : (j : Int) < t.length := by omega
      obtain ⟨q, x, a1, a2, a3⟩ := hP.list hj
      have ht1 : (ints p).take 5 = ints p := List.take_of_length_le (by rw [ints_len, hp]; exact Nat.le_refl _)
      have ht2 : (nats m).take 5 = nats m := List.take_of_length_le (by rw [nats_len, hm]; exact Nat.le_refl _)
      have hlj := hll _ (List.getElem_mem hj)
      have hnat := choiceB_nat (hall j hj hj)
      obtain ⟨c, ec⟩ : ∃ c, c = t[j].map Int.toNat := ⟨_, rfl⟩
      have hcc : t[j].map (fun z => [AV.int .i64 z]) = c.map fun (x : Nat) => [AV.int .i64 (x : Int)] := by
        rw [ec, List.map_map]
        refine List.map_congr_left fun z hz => ?_
        have := hnat z hz
        simp only [Function.comp]
        rw [Int.toNat_of_nonneg (by omega)]
      have hcl : c.length = t[j].length := by rw [ec, List.length_map]
      have hcs : ∀ y ∈ c, y < b.slots.length := fun y hy => by
        rw [ec] at hy
        obtain ⟨z, hz, rfl⟩ := List.mem_map.1 hy
        have := hnat z hz
        omega
      rw [hcc] at a3
      have hxb := a3.bdd (Nat.le_refl _)
      rw [List.drop_eq_getElem_cons hj] at hg
      simp only [rightG, ← ec] at hg
      have hib : (bayC b v) = [v.kv, v.sv, v.dv, v.nv, .int .i64 b.most, v.fv] := rfl
      simp only [go_sem, e3, a1, a2, ints_len, hp, ht1, nats_len, hm, ht2, hib, ↓reduceIte, Nat.reduceEqDiff, Nat.reduceAdd, Nat.reduceSub, Nat.reduceMul, Nat.reduceLT, Nat.reduceLeDiff, Int.reduceLE, Int.reduceLT, Int.reduceAdd, Int.reduceSub, Int.reduceMul, Int.reduceEq, Int.reduceBEq, Int.reduceBNe, Int.reduceNeg, Int.reduceToNat, reduceCtorEq]
      have lk := look_c (w0 := w0) (h := h ++ [some (.row (bayC b v)), some (.row [.int .i64 0, .int .i64 0, .int .i64 0]), some (.row (bayC b v)), some (.row (ints p)), some (.row (nats m))]) (h.length + 2) j p m c x (by omega) hp hm (fun y hy => by have := hcs y hy; omega) (by omega) hmb a3.app (by simp)
      refine rvC_use lk.v ?_
      simp only [go_sem, ↓reduceIte, Nat.reduceEqDiff, Nat.reduceAdd, Nat.reduceSub, Nat.reduceMul, Nat.reduceLT, Nat.reduceLeDiff, Int.reduceLE, Int.reduceLT, Int.reduceAdd, Int.reduceSub, Int.reduceMul, Int.reduceEq, Int.reduceBEq, Int.reduceBNe, Int.reduceNeg, Int.reduceToNat, reduceCtorEq]
      have WK : WorkR w0 (h ++ [some (.row [v.kv, v.sv, v.dv, v.nv, .int .i64 b.most, v.fv]), some (.row [.int .i64 0, .int .i64 0, .int .i64 0]), some (.row [v.kv, v.sv, v.dv, v.nv, .int .i64 b.most, v.fv]), some (.row (ints p)), some (.row (nats m)), some (.row (lookC (h.length + 2) j p x (lookM j m c)))])
          (h.length + 5) (h.length + 2) b v j p x c (lookM j m c) :=
        ⟨by rw [List.getElem?_append_right (by omega), Nat.add_sub_cancel_left]; rfl, by rw [List.getElem?_append_right (by omega), Nat.add_sub_cancel_left]; rfl, hR.app, e1, by omega, hp, by rw [lookM_len, hm], a3.app, hcs, hpb2, by omega⟩
      refine rvC_use (fault_c WK).v ?_
      cases hF : faultD b j p c (lookM j m c) with
      | some ro =>
        obtain ⟨r, o⟩ := ro
        simp only [hF] at hg
        simp only [faultV]
        simp only [go_sem, ↓reduceIte, Nat.reduceEqDiff, Nat.reduceAdd, Nat.reduceSub, Nat.reduceMul, Nat.reduceLT, Nat.reduceLeDiff, Int.reduceLE, Int.reduceLT, Int.reduceAdd, Int.reduceSub, Int.reduceMul, Int.reduceEq, Int.reduceBEq, Int.reduceBNe, Int.reduceNeg, Int.reduceToNat, reduceCtorEq]
        rw [← hg]
      | none =>
        simp only [hF] at hg
        simp only [faultV]
        simp only [go_sem, ↓reduceIte, Nat.reduceEqDiff, Nat.reduceAdd, Nat.reduceSub, Nat.reduceMul, Nat.reduceLT, Nat.reduceLeDiff, Int.reduceLE, Int.reduceLT, Int.reduceAdd, Int.reduceSub, Int.reduceMul, Int.reduceEq, Int.reduceBEq, Int.reduceBNe, Int.reduceNeg, Int.reduceToNat, reduceCtorEq]
        have WK2 := WK.app [some (.row [.int .i64 0, .int .i64 0, .int .i64 0])]
        rw [List.append_assoc] at WK2
        refine rvC_use (change_c WK2).v ?_
        have hP5 : (putD j p c).length = 5 := by rw [putD_len, hp]
        have hM5 : (lookM j m c).length = 5 := by rw [lookM_len, hm]
        simp only [go_sem, ints_one, nats_one, ints_len, nats_len, hP5, hM5, hp, hm, List.append_nil, ↓reduceIte, Nat.reduceEqDiff, Nat.reduceAdd, Nat.reduceSub, Nat.reduceMul, Nat.reduceLT, Nat.reduceLeDiff, Int.reduceLE, Int.reduceLT, Int.reduceAdd, Int.reduceSub, Int.reduceMul, Int.reduceEq, Int.reduceBEq, Int.reduceBNe, Int.reduceNeg, Int.reduceToNat, reduceCtorEq]
        have hd1 : (ints p).drop 5 = [] := List.drop_eq_nil_of_le (by rw [ints_len, hp]; exact Nat.le_refl _)
        have hd2 : (nats m).drop 5 = [] := List.drop_eq_nil_of_le (by rw [nats_len, hm]; exact Nat.le_refl _)
        rw [hd1, hd2, List.append_nil, List.append_nil]
        refine ⟨(by unfold I64; omega), lp_drop 5 hb ?_ (by simp [HBs_some, HBs_none, HBs_nil, FB_cons, FB_nil, row_bdd, AV.bdds, AV.bdd, Pl.bdd, loop_bddT, hP.bdd]) ?_⟩
        · simp [HBs_some, HBs_none, HBs_nil, FB_cons, FB_nil, row_bdd, AV.bdds, AV.bdd, Pl.bdd, loop_bddT, hR.kinds.bdd, hR.slots.bdd, hR.days.bdd, hR.nights.bdd, hR.defs.bdd, ints_bdd, nats_bdd]
        · exact ih (putD j p c, lookM j m c) ⟨hP5, hM5, putD_bd hpb2, lookM_lt (by omega) hmb, hg⟩
    · rintro ⟨p, m⟩ ⟨hp, hm, hpb2, hmb, hg⟩
      simp only at hg ⊢
      refine lp_step hmix L21_2_g [4, 10, 11, 12, 70, 71, 72] L21_2.eq_1 ?_
      have e3 : ¬ (t.length : Int) < t.length := by omega
      rw [List.drop_eq_nil_of_le (Nat.le_refl _)] at hg
      simp only [rightG] at hg
      simp only [go_sem, e3, ↓reduceIte, Nat.reduceEqDiff, Nat.reduceAdd, Nat.reduceSub, Nat.reduceMul, Nat.reduceLT, Nat.reduceLeDiff, Int.reduceLE, Int.reduceLT, Int.reduceAdd, Int.reduceSub, Int.reduceMul, Int.reduceEq, Int.reduceBEq, Int.reduceBNe, Int.reduceNeg, Int.reduceToNat, reduceCtorEq]
      rw [← hg]
end Go.Proofs.Ab

namespace Go.Proofs.Ab
open Go Go.Proofs
variable {w0 : World} {h : Heap}
attribute [local irreducible] ACall ACallV AYield DCall DCallV rvC rdC lp rg dr ex un rv rd'

theorem isNaN_c (x : Int) : DCall Try.prog w0 134 [.int .i64 x] h (.bool false) h := by
  refine DCall_quiet hmix mf134_ok mf134_b mf134_g (Nat.le_of_ble_eq_true rfl) (by simp [AV.bdd, AV.bdds]) fun hb ha => ex_in ?_
  simp only [go_sem, mf134, ↓reduceIte, Nat.reduceEqDiff, Nat.reduceAdd, Nat.reduceSub, Nat.reduceMul, Nat.reduceLT, Nat.reduceLeDiff, Int.reduceLE, Int.reduceLT, Int.reduceAdd, Int.reduceSub, Int.reduceMul, Int.reduceEq, Int.reduceBEq, Int.reduceBNe, Int.reduceNeg, Int.reduceToNat, reduceCtorEq]
  simp
def cmpI (a b : Int) : Int := if a < b then -1 else if b < a then 1 else 0
theorem cmpI_c (a b : Int) : DCall Try.prog w0 129 [.int .i64 a, .int .i64 b] h (.int .i64 (cmpI a b)) h := by
  refine DCall_quiet hmix mf129_ok mf129_b mf129_g (Nat.le_of_ble_eq_true rfl) (by simp [AV.bdd, AV.bdds]) fun hb ha => ex_in ?_
  simp only [go_sem, mf129, ↓reduceIte, Nat.reduceEqDiff, Nat.reduceAdd, Nat.reduceSub, Nat.reduceMul, Nat.reduceLT, Nat.reduceLeDiff, Int.reduceLE, Int.reduceLT, Int.reduceAdd, Int.reduceSub, Int.reduceMul, Int.reduceEq, Int.reduceBEq, Int.reduceBNe, Int.reduceNeg, Int.reduceToNat, reduceCtorEq]
  refine rvC_use (isNaN_c a).v ?_
  simp only [go_sem, ↓reduceIte, Nat.reduceEqDiff, Nat.reduceAdd, Nat.reduceSub, Nat.reduceMul, Nat.reduceLT, Nat.reduceLeDiff, Int.reduceLE, Int.reduceLT, Int.reduceAdd, Int.reduceSub, Int.reduceMul, Int.reduceEq, Int.reduceBEq, Int.reduceBNe, Int.reduceNeg, Int.reduceToNat, reduceCtorEq]
  refine rvC_use (isNaN_c b).v ?_
  simp only [go_sem, ↓reduceIte, Nat.reduceEqDiff, Nat.reduceAdd, Nat.reduceSub, Nat.reduceMul, Nat.reduceLT, Nat.reduceLeDiff, Int.reduceLE, Int.reduceLT, Int.reduceAdd, Int.reduceSub, Int.reduceMul, Int.reduceEq, Int.reduceBEq, Int.reduceBNe, Int.reduceNeg, Int.reduceToNat, reduceCtorEq]
  refine ⟨fun e => by simp [cmpI, e], fun e => ⟨fun e2 => ?_, fun e2 => ?_⟩⟩
  · simp only [cmpI, if_neg (show ¬ a < b by omega), if_pos e2]
  · simp only [cmpI, if_neg (show ¬ a < b by omega), if_neg (show ¬ b < a by omega)]
def cmpN : List Int → List Int → Int
  | [], [] => 0
  | [], _ :: _ => -1
  | _ :: _, [] => 1
  | x :: xs, y :: ys => if cmpI x y ≠ 0 then cmpI x y else cmpN xs ys
theorem cmpN_drop (a b : List Int) (j : Nat) (hj : j ≤ a.length) (hj2 : j ≤ b.length) (hall : ∀ i (h1 : i < a.length) (h2 : i < b.length), i < j → cmpI a[i] b[i] = 0) : cmpN a b = cmpN (a.drop j) (b.drop j) := by
  induction j generalizing a b with
  | zero => rfl
  | succ j ih =>
    cases a with
    | nil => simp at hj
    | cons x xs =>
      cases b with
      | nil => simp at hj2
      | cons y ys =>
        have h0 := hall 0 (by simp) (by simp) (by omega)
        simp only [List.getElem_cons_zero] at h0
        simp only [cmpN, h0, ne_eq, not_true_eq_false, if_false, List.drop_succ_cons]
        refine ih xs ys (by simpa using hj) (by simpa using hj2) fun i h1 h2 hi => ?_
        have := hall (i + 1) (by simpa using h1) (by simpa using h2) (by omega)
        simpa using this

def SlI (w0 : World) (h : Heap) (v : AV) (l : List Int) : Prop := Sl w0 h 1 v (l.map fun z => [.int .i64 z])
theorem SlI.use {v : AV} {l : List Int} (s : SlI w0 h v l) : lenV v = some (.int .i64 l.length) ∧ ∃ q : Pl, (∀ j, j < l.length → idxsV 1 v (some j) = some (.ptr (q.add j))) ∧ ∀ j (hj : j < l.length) L, rd w0 (h ++ L) (q.add j) = some (.int .i64 l[j]) := by
  obtain ⟨ln, q, ix, row, _⟩ := Sl.use s
  simp only [List.length_map, Nat.mul_one] at ln ix row
  refine ⟨ln, q, ix, fun j hj L => ?_⟩
  have := rd_get (row j [.int .i64 l[j]] (by simp [hj])) (o := 0) (x := .int .i64 l[j]) rfl
  rw [show (q.add j).add 0 = q.add j by rw [Pl.add_add]; rfl] at this
  exact rd_app this

theorem cmpN_c (a b : List Int) (va vb : AV) (hva : SlI w0 h va a) (hvb : SlI w0 h vb b) (hn : a.length < 1000000) :
    DCall Try.prog w0 115 [va, vb] h (.int .i64 (cmpN a b)) h := by
  refine DCall_quiet hmix mf115_ok mf115_b mf115_g (Nat.le_of_ble_eq_true rfl) (by simp [AV.bdd, AV.bdds]) fun hb ha => ex_in ?_
  obtain ⟨ln1, q1, ix1, row1⟩ := hva.use
  obtain ⟨ln2, q2, ix2, row2⟩ := hvb.use
  simp only [go_sem, mf115, ln1, ↓reduceIte, Nat.reduceEqDiff, Nat.reduceAdd, Nat.reduceSub, Nat.reduceMul, Nat.reduceLT, Nat.reduceLeDiff, Int.reduceLE, Int.reduceLT, Int.reduceAdd, Int.reduceSub, Int.reduceMul, Int.reduceEq, Int.reduceBEq, Int.reduceBNe, Int.reduceNeg, Int.reduceToNat, reduceCtorEq]
  refine lp_all (fun j => [(0, va), (1, vb), (9, va), (10, .int .i64 a.length), (11, .int .i64 j)]) (fun j => ∃ (h1 : j < a.length) (h2 : j < b.length), cmpI a[j] b[j] = 0) a.length rfl (fun j hj hi ih => ?_) (fun hi => ?_)
  · refine lp_step hmix L115_0_g [0, 1, 9, 10, 11] L115_0.eq_1 ?_
    have e1 := ix1 j hj
    have e2 := row1 j hj
    have e3 : (j : Int) < a.length := by omega
    have hjb : j ≤ b.length := by
      rcases Nat.eq_zero_or_pos j with e | e
      · omega
      · obtain ⟨_, h2, _⟩ := hi (j - 1) (by omega)
        omega
    have hd := cmpN_drop a b j (by omega) hjb fun i h1 h2 hij => by
      obtain ⟨_, _, e⟩ := hi i hij; exact e
    simp only [go_sem, e1, e2, e3, ln2, ↓reduceIte, Nat.reduceEqDiff, Nat.reduceAdd, Nat.reduceSub, Nat.reduceMul, Nat.reduceLT, Nat.reduceLeDiff, Int.reduceLE, Int.reduceLT, Int.reduceAdd, Int.reduceSub, Int.reduceMul, Int.reduceEq, Int.reduceBEq, Int.reduceBNe, Int.reduceNeg, Int.reduceToNat, reduceCtorEq]
    refine ⟨fun e => ?_, fun e => ?_⟩
    · rw [hd, List.drop_eq_getElem_cons hj, show b.drop j = [] from List.drop_eq_nil_of_le (by omega)]; rfl
    · have hjb : j < b.length := by omega
      have e4 := ix2 j hjb
      have e5 := row2 j hjb
      simp only [go_sem, e4, e5, ↓reduceIte, Nat.reduceEqDiff, Nat.reduceAdd, Nat.reduceSub, Nat.reduceMul, Nat.reduceLT, Nat.reduceLeDiff, Int.reduceLE, Int.reduceLT, Int.reduceAdd, Int.reduceSub, Int.reduceMul, Int.reduceEq, Int.reduceBEq, Int.reduceBNe, Int.reduceNeg, Int.reduceToNat, reduceCtorEq]
      refine rvC_use (cmpI_c a[j] b[j]).v ?_
      simp only [go_sem, ↓reduceIte, Nat.reduceEqDiff, Nat.reduceAdd, Nat.reduceSub, Nat.reduceMul, Nat.reduceLT, Nat.reduceLeDiff, Int.reduceLE, Int.reduceLT, Int.reduceAdd, Int.reduceSub, Int.reduceMul, Int.reduceEq, Int.reduceBEq, Int.reduceBNe, Int.reduceNeg, Int.reduceToNat, reduceCtorEq]
      have hd2 : cmpN a b = if cmpI a[j] b[j] ≠ 0 then cmpI a[j] b[j] else cmpN (a.drop (j + 1)) (b.drop (j + 1)) := by
        rw [hd, List.drop_eq_getElem_cons hj, List.drop_eq_getElem_cons hjb]; rfl
      exact ⟨fun e => by rw [hd2, if_pos e], fun e => ⟨(by unfold I64; omega), ih ⟨hj, hjb, e⟩⟩⟩
  · refine lp_step hmix L115_0_g [0, 1, 9, 10, 11] L115_0.eq_1 ?_
    have e3 : ¬ (a.length : Int) < a.length := by omega
    have hjb : a.length ≤ b.length := by
      rcases Nat.eq_zero_or_pos a.length with e | e
      · omega
      · obtain ⟨_, h2, _⟩ := hi (a.length - 1) (by omega)
        omega
    have hd := cmpN_drop a b a.length (by omega) hjb fun i h1 h2 hij => by
      obtain ⟨_, _, e⟩ := hi i hij; exact e
    rw [List.drop_eq_nil_of_le (Nat.le_refl _)] at hd
    simp only [go_sem, e3, ln1, ln2, ↓reduceIte, Nat.reduceEqDiff, Nat.reduceAdd, Nat.reduceSub, Nat.reduceMul, Nat.reduceLT, Nat.reduceLeDiff, Int.reduceLE, Int.reduceLT, Int.reduceAdd, Int.reduceSub, Int.reduceMul, Int.reduceEq, Int.reduceBEq, Int.reduceBNe, Int.reduceNeg, Int.reduceToNat, reduceCtorEq]
    refine ⟨fun e => ?_, fun e => ?_⟩
    · rw [hd, List.drop_eq_getElem_cons (show a.length < b.length by omega)]; rfl
    · rw [hd, show b.drop a.length = [] from List.drop_eq_nil_of_le (by omega)]; rfl

theorem index_c (l : List Int) (v : AV) (x : Int) (hv : SlI w0 h v l) (hn : l.length < 1000000) : DCall Try.prog w0 114 [v, .int .i64 x] h (.int .i64 (idxOf (fun y => x == y) l)) h := by
  refine DCall_quiet hmix mf114_ok mf114_b mf114_g (Nat.le_of_ble_eq_true rfl) (by simp [AV.bdd, AV.bdds]) fun hb ha => ex_in ?_
  obtain ⟨ln1, q1, ix1, row1⟩ := hv.use
  simp only [go_sem, mf114, ln1, ↓reduceIte, Nat.reduceEqDiff, Nat.reduceAdd, Nat.reduceSub, Nat.reduceMul, Nat.reduceLT, Nat.reduceLeDiff, Int.reduceLE, Int.reduceLT, Int.reduceAdd, Int.reduceSub, Int.reduceMul, Int.reduceEq, Int.reduceBEq, Int.reduceBNe, Int.reduceNeg, Int.reduceToNat, reduceCtorEq]
  refine lp_all (fun j => [(0, v), (1, .int .i64 x), (7, .int .i64 l.length), (8, .int .i64 j)]) (fun j => ∀ hj : j < l.length, (x == l[j]) = false) l.length rfl (fun j hj hi ih => ?_) (fun hi => ?_)
  · refine lp_step hmix L114_0_g [0, 1, 7, 8] L114_0.eq_1 ?_
    have e1 := ix1 j hj
    have e2 := row1 j hj
    have e3 : (j : Int) < l.length := by omega
    simp only [go_sem, e1, e2, e3, ↓reduceIte, Nat.reduceEqDiff, Nat.reduceAdd, Nat.reduceSub, Nat.reduceMul, Nat.reduceLT, Nat.reduceLeDiff, Int.reduceLE, Int.reduceLT, Int.reduceAdd, Int.reduceSub, Int.reduceMul, Int.reduceEq, Int.reduceBEq, Int.reduceBNe, Int.reduceNeg, Int.reduceToNat, reduceCtorEq]
    refine ⟨fun e => ?_, fun e => ⟨(by unfold I64; omega), ih fun _ => by simpa using e⟩⟩
    rw [idxOf_at hj hi (by simpa using e)]
  · refine lp_step hmix L114_0_g [0, 1, 7, 8] L114_0.eq_1 ?_
    have e3 : ¬ (l.length : Int) < l.length := by omega
    simp only [go_sem, e3, ↓reduceIte, Nat.reduceEqDiff, Nat.reduceAdd, Nat.reduceSub, Nat.reduceMul, Nat.reduceLT, Nat.reduceLeDiff, Int.reduceLE, Int.reduceLT, Int.reduceAdd, Int.reduceSub, Int.reduceMul, Int.reduceEq, Int.reduceBEq, Int.reduceBNe, Int.reduceNeg, Int.reduceToNat, reduceCtorEq]
    rw [idxOf_none (fun i hi' => hi i hi' hi')]
theorem contains_c (l : List Int) (v : AV) (x : Int) (hv : SlI w0 h v l) (hn : l.length < 1000000) : DCall Try.prog w0 75 [v, .int .i64 x] h (.bool (l.any fun y => x == y)) h := by
  refine DCall_quiet hmix mf75_ok mf75_b mf75_g (Nat.le_of_ble_eq_true rfl) (by simp [AV.bdd, AV.bdds]) fun hb ha => ex_in ?_
  simp only [go_sem, mf75, ↓reduceIte, Nat.reduceEqDiff, Nat.reduceAdd, Nat.reduceSub, Nat.reduceMul, Nat.reduceLT, Nat.reduceLeDiff, Int.reduceLE, Int.reduceLT, Int.reduceAdd, Int.reduceSub, Int.reduceMul, Int.reduceEq, Int.reduceBEq, Int.reduceBNe, Int.reduceNeg, Int.reduceToNat, reduceCtorEq]
  refine rvC_use (index_c l v x (Sl.app hv) hn).v ?_
  simp only [go_sem, ↓reduceIte, Nat.reduceEqDiff, Nat.reduceAdd, Nat.reduceSub, Nat.reduceMul, Nat.reduceLT, Nat.reduceLeDiff, Int.reduceLE, Int.reduceLT, Int.reduceAdd, Int.reduceSub, Int.reduceMul, Int.reduceEq, Int.reduceBEq, Int.reduceBNe, Int.reduceNeg, Int.reduceToNat, reduceCtorEq]
  rw [idxOf_ge]

structure ChD where
  nights : Int
  changes : Int
  list : List Int
  ok : Bool
def ChD.c (d : ChD) (lv : AV) : List AV := [.int .i64 d.nights, .int .i64 d.changes, lv, .bool d.ok]
def lessC (a b : ChD) : Bool := if a.ok ≠ b.ok then a.ok else if a.nights ≠ b.nights then decide (a.nights < b.nights) else if a.changes ≠ b.changes then decide (a.changes < b.changes) else decide (cmpN a.list b.list < 0)

theorem less_c (a b : ChD) (va vb : AV) (hva : SlI w0 h va a.list) (hvb : SlI w0 h vb b.list) (hn : a.list.length < 1000000) : DCall Try.prog w0 79 [.agg (a.c va), .agg (b.c vb)] h (.bool (lessC a b)) h := by
  refine DCall_quiet hmix mf79_ok mf79_b mf79_g (Nat.le_of_ble_eq_true rfl) (by simp [AV.bdd, AV.bdds]) fun hb ha => ex_in ?_
  have o1 := Sl.one hva
  have o2 := Sl.one hvb
  simp only [go_sem, mf79, ChD.c, o1.1, o2.1, ↓reduceIte, Nat.reduceEqDiff, Nat.reduceAdd, Nat.reduceSub, Nat.reduceMul, Nat.reduceLT, Nat.reduceLeDiff, Int.reduceLE, Int.reduceLT, Int.reduceAdd, Int.reduceSub, Int.reduceMul, Int.reduceEq, Int.reduceBEq, Int.reduceBNe, Int.reduceNeg, Int.reduceToNat, reduceCtorEq]
  refine ⟨fun e => ?_, fun e => ⟨fun e2 => ?_, fun e2 => ⟨fun e3 => ?_, fun e3 => ?_⟩⟩⟩
  · have : a.ok ≠ b.ok := by simpa using e
    simp [lessC, this]
  · have : a.ok = b.ok := by simpa using e
    simp [lessC, this, e2]
  · have : a.ok = b.ok := by simpa using e
    simp [lessC, this, e2, e3]
  · have : a.ok = b.ok := by simpa using e
    refine rvC_use (cmpN_c a.list b.list va vb (Sl.app hva) (Sl.app hvb) hn).v ?_
    simp only [go_sem, ↓reduceIte, Nat.reduceEqDiff, Nat.reduceAdd, Nat.reduceSub, Nat.reduceMul, Nat.reduceLT, Nat.reduceLeDiff, Int.reduceLE, Int.reduceLT, Int.reduceAdd, Int.reduceSub, Int.reduceMul, Int.reduceEq, Int.reduceBEq, Int.reduceBNe, Int.reduceNeg, Int.reduceToNat, reduceCtorEq]
    simp [lessC, this, e2, e3]

theorem betterC_c (a b : ChD) (va vb : AV) (hva : SlI w0 h va a.list) (hvb : SlI w0 h vb b.list) (hn : b.list.length < 1000000) :
    DCall Try.prog w0 78 [.agg (a.c va), .agg (b.c vb), .fn (.func 79) [] []] h (.agg (if lessC b a then b.c vb else a.c va)) h := by
  have b1 := Sl.bdd hva (Nat.le_refl _)
  have b2 := Sl.bdd hvb (Nat.le_refl _)
  refine DCall_quiet hmix mf78_ok mf78_b mf78_g (Nat.le_of_ble_eq_true rfl) (by split <;> simp [AV.bdd, AV.bdds, ChD.c, b1, b2]) fun hb ha => ex_in ?_
  have o1 := Sl.one hva
  have o2 := Sl.one hvb
  simp only [go_sem, mf78, ChD.c, o1.1, o2.1, ↓reduceIte, Nat.reduceEqDiff, Nat.reduceAdd, Nat.reduceSub, Nat.reduceMul, Nat.reduceLT, Nat.reduceLeDiff, Int.reduceLE, Int.reduceLT, Int.reduceAdd, Int.reduceSub, Int.reduceMul, Int.reduceEq, Int.reduceBEq, Int.reduceBNe, Int.reduceNeg, Int.reduceToNat, reduceCtorEq]
  refine rvC_use (less_c b a vb va (Sl.app hvb) (Sl.app hva) hn).v ?_
  simp only [go_sem, o1.1, o2.1, ↓reduceIte, Nat.reduceEqDiff, Nat.reduceAdd, Nat.reduceSub, Nat.reduceMul, Nat.reduceLT, Nat.reduceLeDiff, Int.reduceLE, Int.reduceLT, Int.reduceAdd, Int.reduceSub, Int.reduceMul, Int.reduceEq, Int.reduceBEq, Int.reduceBNe, Int.reduceNeg, Int.reduceToNat, reduceCtorEq]
  exact ⟨fun e => by simp [e], fun e => by simp [e]⟩
end Go.Proofs.Ab

namespace Go.Proofs.Ab
open Go Go.Proofs
variable {w0 : World} {h : Heap}
attribute [local irreducible] ACall ACallV AYield DCall DCallV rvC rdC lp rg dr ex un rv rd'

theorem bin_and1 {a : Nat} (ha : a < 2 ^ 62) : bin .and (.int .i64 (a : Int)) (.int .i64 1) = some (.int .i64 ((a % 2 : Nat) : Int)) := by
  simp only [bin, if_true, binop, bitop]
  rw [show (BitVec.ofInt IntKind.i64.bits (a : Int) &&& BitVec.ofInt IntKind.i64.bits (1 : Int)).toNat = a % 2 by
    rw [show (1 : Int) = ((1 : Nat) : Int) from rfl, BitVec.toNat_and, BitVec.ofInt_natCast, BitVec.ofInt_natCast, BitVec.toNat_ofNat, BitVec.toNat_ofNat, Nat.mod_eq_of_lt (a := a), Nat.mod_eq_of_lt (a := 1)]
    · exact Nat.and_one_is_mod a
    · simp [IntKind.bits]
    · simp [IntKind.bits]; omega]
  rw [wrap_nat (by omega)]

def bitsL (bits j : Nat) : List Int := ((List.range j).filter fun s => bits / 2 ^ s % 2 == 1).map Int.ofNat
def listedD (bits : Nat) : List Int := bitsL bits 5
theorem bitsL_succ {bits j : Nat} : bitsL bits (j + 1) = if bits / 2 ^ j % 2 = 1 then bitsL bits j ++ [(j : Int)] else bitsL bits j := by
  simp only [bitsL, List.range_succ, List.filter_append, List.map_append, List.filter_cons, List.filter_nil]
  by_cases e : bits / 2 ^ j % 2 = 1
  · simp [e]
  · simp [e]
theorem bitsL_len {bits j : Nat} : (bitsL bits j).length ≤ j := by
  simp only [bitsL, List.length_map]
  exact Nat.le_trans (List.length_filter_le _ _) (by simp)

theorem own_SlI {l : List Int} : SlI w0 (h ++ ownB (ints l)) (ownV 1 h.length l.length) l := by
  cases l with
  | nil => exact .inl ⟨rfl, rfl⟩
  | cons a l =>
    have := Sl_lit (w0 := w0) (h := h) ((a :: l).map fun z => [AV.int .i64 z]) (es := 1) false (L := ownB (ints (a :: l))) 0 (by
      rw [ownB_ne (by simp [ints])]
      simp [List.flatten_eq_flatMap, List.flatMap_map, ints]; exact List.map_eq_flatMap) (by simp)
    simpa [SlI, ownV] using this

theorem listed_c (bits : Nat) (hbits : bits < 2 ^ 60) : DCall Try.prog w0 77 [.int .i64 bits] h (ownV 1 h.length (listedD bits).length) (h ++ ownB (ints (listedD bits))) := by
  refine DCall_ord hmix mf77_ok mf77_b mf77_g (Nat.le_of_ble_eq_true rfl) fun hb ha => ex_in ?_
  simp only [go_sem, mf77, ↓reduceIte, Nat.reduceEqDiff, Nat.reduceAdd, Nat.reduceSub, Nat.reduceMul, Nat.reduceLT, Nat.reduceLeDiff, Int.reduceLE, Int.reduceLT, Int.reduceAdd, Int.reduceSub, Int.reduceMul, Int.reduceEq, Int.reduceBEq, Int.reduceBNe, Int.reduceNeg, Int.reduceToNat, reduceCtorEq]
  rw [List.append_nil]
  refine lp_for (S := Unit) (fun j _ => [(0, .int .i64 bits), (3, ownV 1 h.length (bitsL bits j).length), (5, .int .i64 j)]) (fun j _ => h ++ ownB (ints (bitsL bits j))) (fun _ _ => True) 5 () trivial rfl (by simp [ownB, bitsL, ints]) (fun j _ hj _ ih => ?_) (fun _ _ => ?_)
  · refine lp_step hmix L77_0_g [0, 3, 5] L77_0.eq_1 ?_
    have e1 : (j : Int) < 5 := by omega
    have e2 := bin_shr (a := bits) (n := j) (by omega)
    have e3 := bin_and1 (a := bits / 2 ^ j) (by have := Nat.div_le_self bits (2 ^ j); omega)
    have hov : (ownV 1 h.length (bitsL bits j).length).bdd (h.length + (ownB (ints (bitsL bits j))).length) := ownV_bdd (l := ints (bitsL bits j)) (by simp) (by omega) (Nat.le_refl _)
    have ih := ih () trivial
    rw [bitsL_succ] at ih
    simp only [go_sem, e1, e2, e3, ↓reduceIte, Nat.reduceEqDiff, Nat.reduceAdd, Nat.reduceSub, Nat.reduceMul, Nat.reduceLT, Nat.reduceLeDiff, Int.reduceLE, Int.reduceLT, Int.reduceAdd, Int.reduceSub, Int.reduceMul, Int.reduceEq, Int.reduceBEq, Int.reduceBNe, Int.reduceNeg, Int.reduceToNat, reduceCtorEq]
    refine ⟨fun e => ?_, fun e => ⟨(by unfold I64; omega), ?_⟩⟩
    · rw [if_pos (by omega)] at ih
      have hl5 := bitsL_len (bits := bits) (j := j)
      obtain ⟨G, hGl, _, eG⟩ := app_more (w0 := w0) (h := h) (es := 1) (b := 8) (n := (bitsL bits j).length) (old := ints (bitsL bits j)) (x := [.int .i64 (j : Int)]) (X := [some (.row [.int .i64 (j : Int)])]) (ownB (ints (bitsL bits j))).length true
        (by simp) (by simp) rfl (by omega) rfl (by omega) (by omega)
      simp only [go_sem, eG, ↓reduceIte, Nat.reduceEqDiff, Nat.reduceAdd, Nat.reduceSub, Nat.reduceMul, Nat.reduceLT, Nat.reduceLeDiff, Int.reduceLE, Int.reduceLT, Int.reduceAdd, Int.reduceSub, Int.reduceMul, Int.reduceEq, Int.reduceBEq, Int.reduceBNe, Int.reduceNeg, Int.reduceToNat, reduceCtorEq]
      refine ⟨(by unfold I64; omega), lp_ord [G.length] (L' := ownB (ints (bitsL bits j ++ [(j : Int)]))) (Nat.le_refl _) hb ?_ ih⟩
      rw [← ints_app, ownB_ne (by simp), List.length_append]
      refine ⟨rfl, by simp, ord_c (fun b' hb' => ?_) ord_n, by rw [ints_app]; simp [HBs_some, HBs_none, HBs_nil, FB_cons, FB_nil, row_bdd, AV.bdds, AV.bdd, Pl.bdd, loop_bddT], by simp [HBs_some, HBs_none, HBs_nil, FB_cons, FB_nil, row_bdd, AV.bdds, AV.bdd, Pl.bdd, loop_bddT, ownV_s], ?_⟩
      · cases hb'
        simp [Blk.ren, AV.rens_id (M := 0) (fun _ h => by omega) (bdds_append (ints_bdd 0 (bitsL bits j)) (show AV.bdds 0 [AV.int .i64 (j : Int)] by simp [AV.bdds, AV.bdd]))]
      · simp [Fr.ren, AV.ren, AV.rens, Pl.ren, Blk.ren, shf_0, shf_a, ownV_s]
    · rw [if_neg (by omega)] at ih
      exact ih
  · refine lp_step hmix L77_0_g [0, 3, 5] L77_0.eq_1 ?_
    have e1 : ¬ ((5 : Nat) : Int) < 5 := by omega
    simp only [go_sem, e1, ↓reduceIte, Nat.reduceEqDiff, Nat.reduceAdd, Nat.reduceSub, Nat.reduceMul, Nat.reduceLT, Nat.reduceLeDiff, Int.reduceLE, Int.reduceLT, Int.reduceAdd, Int.reduceSub, Int.reduceMul, Int.reduceEq, Int.reduceBEq, Int.reduceBNe, Int.reduceNeg, Int.reduceToNat, reduceCtorEq]
    refine ordK_id (v := ownV 1 h.length (listedD bits).length) (L := ownB (ints (listedD bits))) (fun x hx => ?_) (HBs_ownB (ints_bdd _ _)) (ownV_bdd (es := 1) (n := (listedD bits).length) (l := ints (listedD bits)) (by simp) (by omega) (Nat.le_refl _))
    unfold ownB at hx
    split at hx
    · simp at hx
    · simp at hx; exact ⟨_, hx⟩
end Go.Proofs.Ab

namespace Go.Proofs.Ab
open Go Go.Proofs
variable {w0 : World} {h : Heap}
attribute [local irreducible] ACall ACallV AYield DCall DCallV rvC rdC lp rg dr ex un rv rd'

def stC (n : Nat) (p : List Int) : List AV := .int .i64 n :: ints p
section
variable {n : Nat} {p : List Int}
theorem stC_one : (stC n p).all one = true := by
  simp only [stC, List.all_cons, ints_one, Bool.and_true]; rfl
theorem stC_len (hp : p.length = 5) : (stC n p).length = 6 := by simp [stC, hp]
theorem stC_0 : (stC n p)[0]? = some (.int .i64 n) := rfl
theorem stC_p (hp : p.length = 5) {s : Nat} (hs : s < 5) : (stC n p)[1 + s]? = some (.int .i64 (p[s]'(by omega))) := by
  rw [Nat.add_comm, stC, List.getElem?_cons_succ, ints_get, List.getElem?_eq_getElem (by omega)]; rfl
theorem stC_take (hp : p.length = 5) : (stC n p).take 6 = stC n p := List.take_of_length_le (by rw [stC_len hp]; exact Nat.le_refl _)
theorem stC_bdd {N : Nat} : AV.bdds N (stC n p) := by simp [stC, AV.bdds, AV.bdd]
end

def defOk (n : Nat) (p : List Int) (c : List Int) (d : DefD) : Bool := !((d.nights.high == (n : Int)) && decide (max (p.getD d.slot.toNat 0) (-1) < d.nights.low) && !(c.any fun y => d.slot == y))
def allowD (b : BayD) (n : Nat) (p : List Int) (c : List Int) : Bool :=
  (List.range b.slots.length).all (fun s => !decide (lastsD Span.high b s (p.getD s 0) < n)) && !((decide (0 < c.length) && !(b.nights.getD n false)) || decide (b.most < c.length)) && b.defs.all (defOk n p c)

theorem allow_c (b : BayD) (v : BayV) (n : Nat) (p : List Int) (c : List Int) (cv tv : AV) {ib it : Nat} (hi : h[ib]? = some (some (.row (bayC b v)))) (hit : h[it]? = some (some (.row [tv]))) (hR : BayR w0 h b v) (hB : bayB b = true) (hT : LL w0 h tv (untilT b))
    (hn : n < b.days.length) (hp : p.length = 5) (hpb : ∀ x ∈ p, -1 ≤ x ∧ x < n) (hc : SlI w0 h cv c) (hcl : c.length < 1000000) :
    DCall Try.prog w0 74 [.agg (stC n p), cv, .ptr (.own ib 0), .ptr (.own it 0)] h (.bool (allowD b n p c)) h := by
  refine DCall_quiet hmix mf74_ok mf74_b mf74_g (Nat.le_of_ble_eq_true rfl) (by simp [AV.bdd, AV.bdds]) fun hb ha => ex_in ?_
  have bs := bayB_spec hB
  have hil := get_lt hi
  have hitl := get_lt hit
  have hi' : ∀ L, (h ++ L)[ib]? = some (some (.row (bayC b v))) := fun L => getElem?_app_left hi
  have ht' : ∀ L, (h ++ L)[it]? = some (some (.row [tv])) := fun L => getElem?_app_left hit
  have l1 := hR.slots.use.1
  obtain ⟨l4, nq, nx, nrow, _⟩ := hR.nights.use
  obtain ⟨l3, dp, d2, d3, d4⟩ := hR.defs.use
  simp only [List.length_map] at l1 l3 l4 d2 nx
  have lc := hc.use.1
  simp only [go_sem, mf74, stC_one, stC_len hp, hi', l1, ↓reduceIte, Nat.reduceEqDiff, Nat.reduceAdd, Nat.reduceSub, Nat.reduceMul, Nat.reduceLT, Nat.reduceLeDiff, Int.reduceLE, Int.reduceLT, Int.reduceAdd, Int.reduceSub, Int.reduceMul, Int.reduceEq, Int.reduceBEq, Int.reduceBNe, Int.reduceNeg, Int.reduceToNat, reduceCtorEq]
  refine lp_all (fun j => [(1, cv), (2, .ptr (.own ib 0)), (3, .ptr (.own it 0)), (4, .ptr (.own h.length 0)), (12, .int .i64 b.slots.length), (13, .int .i64 j)]) (fun j => ¬ lastsD Span.high b j (p.getD j 0) < n) b.slots.length rfl (fun j hj hall ih => ?_) (fun hall => ?_)
  · refine lp_step hmix L74_0_g [1, 2, 3, 4, 12, 13] L74_0.eq_1 ?_
    have e1 : (j : Int) < b.slots.length := by omega
    have hj5 : j < p.length := by omega
    have e3 : p.getD j 0 = p[j] := by rw [List.getD_eq_getElem?_getD, List.getElem?_eq_getElem hj5]; rfl
    have e4 := hpb p[j] (List.getElem_mem hj5)
    obtain ⟨u, hu⟩ : ∃ u : Nat, p[j] + 1 = u := ⟨(p[j] + 1).toNat, by omega⟩
    have e5 := stC_p (n := n) hp (s := j) (by omega)
    have hlen : (untilT b)[j]'(by simpa [untilT] using hj) = rowU b j (b.days.length + 1) := by simp [untilT]
    obtain ⟨q1, q2, x, a1, a2, a3, a4⟩ := hT.at_ (a := j) (c := u) (by simpa [untilT] using hj) (by rw [hlen, rowU_len]; omega)
    have a4' : ∀ L, rd w0 (h ++ L) q2 = some (.int .i64 (lastsD Span.high b j p[j])) := fun L => by
      rw [a4 L]; simp only [hlen, rowU, List.getElem_map, List.getElem_range]
      rw [show (u : Int) - 1 = p[j] by omega]
    simp only [go_sem, e1, ht', a1, a2, e5, hu, a3, a4', stC_0, Nat.mul_one, ↓reduceIte, Nat.reduceEqDiff, Nat.reduceAdd, Nat.reduceSub, Nat.reduceMul, Nat.reduceLT, Nat.reduceLeDiff, Int.reduceLE, Int.reduceLT, Int.reduceAdd, Int.reduceSub, Int.reduceMul, Int.reduceEq, Int.reduceBEq, Int.reduceBNe, Int.reduceNeg, Int.reduceToNat, reduceCtorEq]
    have hal : ¬ lastsD Span.high b j p[j] < n ↔ ¬ lastsD Span.high b j (p.getD j 0) < n := by rw [e3]
    refine ⟨by omega, (by unfold I64; omega), fun e => ?_, fun e => ⟨(by unfold I64; omega), ih (hal.1 e)⟩⟩
    have : (List.range b.slots.length).all (fun s => !decide (lastsD Span.high b s (p.getD s 0) < n)) = false := List.all_eq_false.2 ⟨j, List.mem_range.2 hj, by rw [e3]; simp [e]⟩
    simp only [allowD, this, Bool.false_and]
  · refine lp_step hmix L74_0_g [1, 2, 3, 4, 12, 13] L74_0.eq_1 ?_
    have e1 : ¬ (b.slots.length : Int) < b.slots.length := by omega
    have hA : (List.range b.slots.length).all (fun s => !decide (lastsD Span.high b s (p.getD s 0) < n)) = true := List.all_eq_true.2 fun s hs => by
      have := hall s (List.mem_range.1 hs); rw [decide_eq_false this]; rfl
    have n1 := nx n (by omega)
    have n2 : ∀ L, rd w0 (h ++ L) (nq.add (n * 1)) = some (.bool (b.nights[n]'(by omega))) := fun L => by
      have := rd_get (nrow n [.bool (b.nights[n]'(by omega))] (by simp)) (o := 0) (x := .bool (b.nights[n]'(by omega))) rfl
      rw [Pl.add_add] at this
      exact rd_app this
    have n3 : b.nights.getD n false = b.nights[n]'(by omega) := by rw [List.getD_eq_getElem?_getD, List.getElem?_eq_getElem (by omega)]; rfl
    have hloop : (decide (0 < c.length) && !(b.nights.getD n false) || decide (b.most < c.length)) = false →
        lp Try.prog w0 none 83 h.length (quietK w0 [.t 6] h (.bool (allowD b n p c))) L74_1
          [.inBlk 2, .code ((SC.reg [.op (some 6) none (.mov (.k (.bool true)))]).seq .ret)]
          [(1, cv), (4, .ptr (.own h.length 0)), (51, v.fv), (52, .int .i64 b.defs.length), (53, .int .i64 0)] (h ++ [some (.row (stC n p))]) := fun hB2 => by
      have hval : allowD b n p c = b.defs.all (defOk n p c) := by simp only [allowD, hA, hB2, Bool.not_false, Bool.true_and]
      rw [hval]
      have hcb := Sl.bdd hc (Nat.le_refl _)
      have hfb := hR.defs.bdd (Nat.le_refl _)
      refine lp_all (fun j => [(1, cv), (4, .ptr (.own h.length 0)), (51, v.fv), (52, .int .i64 b.defs.length), (53, .int .i64 j)]) (fun j => ∀ hj : j < b.defs.length, defOk n p c b.defs[j] = true) b.defs.length rfl (fun j hj hall2 ih2 => ?_) (fun hall2 => ?_)
      · refine lp_step hmix L74_1_g [1, 4, 51, 52, 53] L74_1.eq_1 ?_
        have f1 : (j : Int) < b.defs.length := by omega
        have c1 := d2 j hj
        have c2 : ∀ L, rdn w0 (h ++ L) (dp.add (j * 3)) 3 = some b.defs[j].c := fun L => rdn_app (d3 j _ (by simp [hj]))
        obtain ⟨D, eD⟩ : ∃ D, D = b.defs[j] := ⟨_, rfl⟩
        have hd := bs.2.2.2.2.2.2.2.2.2.2.2.2.2 _ (List.getElem_mem hj)
        have hbadF : defOk n p c D = false → b.defs.all (defOk n p c) = false := fun e => List.all_eq_false.2 ⟨D, by rw [eD]; exact List.getElem_mem hj, by simp [e]⟩
        simp only [← eD] at c2 hd ih2
        simp only [defB, inB, spanB, Bool.and_eq_true, decide_eq_true_eq] at hd
        obtain ⟨ds, dn⟩ := D
        obtain ⟨dl, dh⟩ := dn
        simp only at hd
        obtain ⟨s, rfl⟩ : ∃ s : Nat, ds = s := ⟨ds.toNat, by omega⟩
        have hsm : s < p.length := by omega
        have e2 := stC_p (n := n) hp (s := s) (by omega)
        have e5 : p.getD s 0 = p[s] := by rw [List.getD_eq_getElem?_getD, List.getElem?_eq_getElem hsm]; rfl
        simp only [go_sem, f1, c1, c2, stC_0, e2, Nat.mul_one, ↓reduceIte, Nat.reduceEqDiff, Nat.reduceAdd, Nat.reduceSub, Nat.reduceMul, Nat.reduceLT, Nat.reduceLeDiff, Int.reduceLE, Int.reduceLT, Int.reduceAdd, Int.reduceSub, Int.reduceMul, Int.reduceEq, Int.reduceBEq, Int.reduceBNe, Int.reduceNeg, Int.reduceToNat, reduceCtorEq]
        have hdef : defOk n p c ⟨s, ⟨dl, dh⟩⟩ = !((dh == (n : Int)) && decide (max p[s] (-1) < dl) && !(c.any fun y => (s : Int) == y)) := by simp only [defOk, Int.toNat_natCast, e5]
        refine ⟨fun g1 => ⟨by omega, fun g2 => ?_, fun g2 => ⟨(by unfold I64; omega), lp_drop 1 hb (by simp [HBs_some, HBs_none, HBs_nil, FB_cons, FB_nil, row_bdd, AV.bdds, AV.bdd, Pl.bdd, loop_bddT, stC_bdd]) (by simp [HBs_some, HBs_none, HBs_nil, FB_cons, FB_nil, row_bdd, AV.bdds, AV.bdd, Pl.bdd, loop_bddT, hcb, hfb, AV.bdd_mono (Nat.le_succ _) _ hcb, AV.bdd_mono (Nat.le_succ _) _ hfb]) (ih2 fun _ => ?_)⟩⟩, fun g1 => ⟨(by unfold I64; omega), lp_drop 1 hb (by simp [HBs_some, HBs_none, HBs_nil, FB_cons, FB_nil, row_bdd, AV.bdds, AV.bdd, Pl.bdd, loop_bddT, stC_bdd]) (by simp [HBs_some, HBs_none, HBs_nil, FB_cons, FB_nil, row_bdd, AV.bdds, AV.bdd, Pl.bdd, loop_bddT, hcb, hfb, AV.bdd_mono (Nat.le_succ _) _ hcb, AV.bdd_mono (Nat.le_succ _) _ hfb]) (ih2 fun _ => ?_)⟩⟩
        · refine rdC_useT (contains_c c cv s (Sl.app hc) hcl).v (Nat.le_refl _) ?_
          simp only [go_sem, ↓reduceIte, Nat.reduceEqDiff, Nat.reduceAdd, Nat.reduceSub, Nat.reduceMul, Nat.reduceLT, Nat.reduceLeDiff, Int.reduceLE, Int.reduceLT, Int.reduceAdd, Int.reduceSub, Int.reduceMul, Int.reduceEq, Int.reduceBEq, Int.reduceBNe, Int.reduceNeg, Int.reduceToNat, reduceCtorEq]
          refine ⟨fun g3 => ?_, fun g3 => ⟨(by unfold I64; omega), lp_drop 1 hb (by simp [HBs_some, HBs_none, HBs_nil, FB_cons, FB_nil, row_bdd, AV.bdds, AV.bdd, Pl.bdd, loop_bddT, stC_bdd]) (by simp [HBs_some, HBs_none, HBs_nil, FB_cons, FB_nil, row_bdd, AV.bdds, AV.bdd, Pl.bdd, loop_bddT, hcb, hfb, AV.bdd_mono (Nat.le_succ _) _ hcb, AV.bdd_mono (Nat.le_succ _) _ hfb]) (ih2 fun _ => ?_)⟩⟩
          · rw [hbadF (by rw [hdef, g1, g3]; simp only [beq_self_eq_true, decide_eq_true g2]; rfl)]
          · rw [hdef, g3]; simp
        · rw [hdef, decide_eq_false g2]; simp
        · rw [hdef, beq_eq_false_iff_ne.2 g1]; rfl
      · refine lp_step hmix L74_1_g [1, 4, 51, 52, 53] L74_1.eq_1 ?_
        have f1 : ¬ (b.defs.length : Int) < b.defs.length := by omega
        simp only [go_sem, f1, ↓reduceIte, Nat.reduceEqDiff, Nat.reduceAdd, Nat.reduceSub, Nat.reduceMul, Nat.reduceLT, Nat.reduceLeDiff, Int.reduceLE, Int.reduceLT, Int.reduceAdd, Int.reduceSub, Int.reduceMul, Int.reduceEq, Int.reduceBEq, Int.reduceBNe, Int.reduceNeg, Int.reduceToNat, reduceCtorEq]
        have : b.defs.all (defOk n p c) = true := List.all_eq_true.2 fun x hx => by
          obtain ⟨q, hq, rfl⟩ := List.getElem_of_mem hx
          exact hall2 q hq hq
        rw [this]
    simp only [go_sem, e1, lc, hi', stC_0, n1, n2, l3, ↓reduceIte, Nat.reduceEqDiff, Nat.reduceAdd, Nat.reduceSub, Nat.reduceMul, Nat.reduceLT, Nat.reduceLeDiff, Int.reduceLE, Int.reduceLT, Int.reduceAdd, Int.reduceSub, Int.reduceMul, Int.reduceEq, Int.reduceBEq, Int.reduceBNe, Int.reduceNeg, Int.reduceToNat, reduceCtorEq]
    refine ⟨fun g1 => ⟨fun g2 => ⟨fun g3 => ?_, fun g3 => hloop ?_⟩, fun g2 => ?_⟩, fun g1 => ⟨fun g3 => ?_, fun g3 => hloop ?_⟩⟩
    · simp [allowD, show b.most < c.length by omega]
    · rw [n3, g2]; simp; omega
    · have : decide (0 < c.length) = true := by simpa using g1
      simp only [allowD, n3, g2, this, Bool.not_false, Bool.and_self, Bool.true_or, Bool.not_true, Bool.and_false, Bool.false_and]
    · simp [allowD, show b.most < c.length by omega]
    · have : decide (0 < c.length) = false := by simpa using g1
      rw [this]; simp; omega
end Go.Proofs.Ab

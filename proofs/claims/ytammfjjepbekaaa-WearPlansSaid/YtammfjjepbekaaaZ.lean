/- The own layer under the proofs of this seat, part Z: what calls of the program come to on an abstract heap. No condition. -/
import Derived.Test.YtammfjjepbekaaaY
import Derived.Test.YtammfjjepbekaaaG
set_option linter.unusedSimpArgs false
set_option linter.unusedVariables false
namespace Go.Proofs.Ab
open Go Go.Proofs
variable {w0 : World} {h : Heap}
attribute [local irreducible] ACall ACallV AYield DCall DCallV rvC rdC lp rg dr ex un rv rd'

theorem bitsL_lt {bits N : Nat} : ∀ x ∈ bitsL bits N, 0 ≤ x ∧ x < N := fun x hx => by
  simp only [bitsL, List.mem_map, List.mem_filter, List.mem_range] at hx
  obtain ⟨s, ⟨h1, _⟩, rfl⟩ := hx
  simp only [Int.ofNat_eq_natCast]; omega
theorem insC_mem {out : List (List Int)} {x y : List Int} : y ∈ insC out x ↔ y = x ∨ y ∈ out := by
  simp only [insC, List.mem_append, List.mem_cons]
  constructor
  · rintro (h | h | h)
    · exact .inr (List.mem_of_mem_take h)
    · exact .inl h
    · exact .inr (List.mem_of_mem_drop h)
  · rintro (h | h)
    · exact .inr (.inl h)
    · have := List.take_append_drop (posC out x) out
      rw [← this, List.mem_append] at h
      rcases h with h | h
      · exact .inl h
      · exact .inr (.inr h)
theorem choices_mem {N : Nat} : ∀ {k : Nat} {y : List Int}, y ∈ choicesD N k ↔ ∃ bits, bits < k ∧ y = bitsL bits N
  | 0, y => by simp [choicesD]
  | k + 1, y => by
    rw [choices_succ, insC_mem, choices_mem]
    constructor
    · rintro (rfl | ⟨bits, h1, rfl⟩)
      · exact ⟨k, by omega, rfl⟩
      · exact ⟨bits, by omega, rfl⟩
    · rintro ⟨bits, h1, rfl⟩
      rcases Nat.lt_or_ge bits k with h2 | h2
      · exact .inr ⟨bits, h2, rfl⟩
      · have : bits = k := by omega
        subst this; exact .inl rfl

theorem dr_keep {P : Program} {r : Option Nat} {nt Z : Nat} {Q : Exit → Fr → Heap → Prop} {l : List MIx} {bef : List (List Nat)} {k : List It} {fr : Fr} (ks : List Nat) (e : dr P w0 r nt Z Q l bef k (xkeep fr ks) h) : dr P w0 r nt Z Q l bef k fr h := by
  unfold dr at *; exact EvM_frame (xkeep_get ks fr) e

def O81_a : List OD := [⟨0, [], [], []⟩, ⟨0, [], [], []⟩, ⟨0, [], [], []⟩, ⟨1, [0], [], []⟩, ⟨0, [], [], []⟩, ⟨3, [], [], [0]⟩, ⟨5, [], [], [1]⟩, ⟨0, [], [0, 1], []⟩, ⟨0, [], [0, 1], []⟩, ⟨0, [], [0, 1], []⟩, ⟨5, [], [], []⟩, ⟨0, [], [], []⟩]
theorem O81_a_ok : gdOk 0 O81_a D81_0 B81_0 = true := by kernel_rfl
theorem O81_a_ok2 : gdOk2 O81_a D81_0 B81_0 = true := by kernel_rfl
def O81_b : List OD := [⟨0, [], [], []⟩, ⟨0, [], [], []⟩, ⟨0, [], [], []⟩, ⟨1, [0], [], []⟩, ⟨0, [], [], []⟩, ⟨3, [], [], [0]⟩, ⟨5, [], [], [1]⟩, ⟨0, [], [0, 1], []⟩, ⟨0, [], [0, 1], []⟩, ⟨0, [], [0, 1], []⟩, ⟨5, [], [], [2]⟩, ⟨0, [], [], []⟩]
theorem O81_b_ok : gdOk 0 O81_b D81_0 B81_0 = true := by kernel_rfl
theorem O81_b_ok2 : gdOk2 O81_b D81_0 B81_0 = true := by kernel_rfl
def O81_c : List OD := [⟨0, [], [], []⟩, ⟨0, [], [], []⟩, ⟨0, [], [], []⟩, ⟨3, [1], [], [0]⟩, ⟨0, [], [0], []⟩, ⟨3, [0], [0], [1]⟩, ⟨5, [], [], [2]⟩, ⟨0, [], [0, 1, 2], []⟩, ⟨0, [], [0, 1, 2], []⟩, ⟨0, [], [0, 1, 2], []⟩, ⟨5, [], [], []⟩, ⟨0, [], [], []⟩]
theorem O81_c_ok : gdOk 0 O81_c D81_0 B81_0 = true := by kernel_rfl
theorem O81_c_ok2 : gdOk2 O81_c D81_0 B81_0 = true := by kernel_rfl
structure ChI (w0 : World) (h H : Heap) (N k io : Nat) (ov : AV) (vs : List AV) : Prop where
  sub : HSub h (mk k io H)
  own : Gr2 H 1 k io ov vs
  len : vs.length = k
  at_ : ∀ (j : Nat) x l, vs[j]? = some x → (choicesD N k)[j]? = some l → SlI w0 (mk k io H) x l

set_option maxHeartbeats 4000000 in
theorem choices_c (N : Nat) (hN : N ≤ 5) : ACall Try.prog w0 81 [.int .i64 N] h fun y h' => HSub h h' ∧ LL w0 h' y (choicesD N (2 ^ N)) := by
  refine ACall_sx hmix mf81_ok mf81_b mf81_g (Nat.le_of_ble_eq_true rfl) fun hb ha => ex_in ?_
  simp only [go_sem, mf81, ↓reduceIte, Nat.reduceEqDiff, Nat.reduceAdd, Nat.reduceSub, Nat.reduceMul, Nat.reduceLT, Nat.reduceLeDiff, Int.reduceLE, Int.reduceLT, Int.reduceAdd, Int.reduceSub, Int.reduceMul, Int.reduceEq, Int.reduceBEq, Int.reduceBNe, Int.reduceNeg, Int.reduceToNat, reduceCtorEq]
  rw [List.append_nil]
  have hpw : 2 ^ N ≤ 2 ^ 5 := Nat.pow_le_pow_right (by omega) hN
  have e2 := bin_shl1 (n := N) (by omega)
  refine lp_ind (S := Nat × Heap × AV × Nat × List AV) (F := fun s => [(0, .int .i64 N), (3, s.2.2.1), (4, .int .i64 s.1)]) (H := fun s => s.2.1) (meas := fun s => 2 ^ N - s.1)
    (Inv := fun s => s.1 ≤ 2 ^ N ∧ ChI w0 h s.2.1 N s.1 s.2.2.2.1 s.2.2.1 s.2.2.2.2)
    (0, h, .nilS, 0, []) ⟨Nat.zero_le _, by simp only [mk, if_true]; exact HSub.refl, .inl ⟨rfl, rfl, rfl⟩, rfl, fun j x l e => by simp at e⟩ rfl rfl ?_
  rintro ⟨k, H, ov, io, vs⟩ ⟨hk, I⟩ ih
  simp only at hk I ih
  refine lp_step hmix L81_1_g [0, 3, 4] L81_1.eq_1 ?_
  have hsH : HSub h H := I.sub.trans mk_sub
  by_cases hkn : k < 2 ^ N
  · have e1 : (k : Int) < ((2 ^ N : Nat) : Int) := by omega
    simp only [go_sem, e2, e1, ↓reduceIte, Nat.reduceEqDiff, Nat.reduceAdd, Nat.reduceSub, Nat.reduceMul, Nat.reduceLT, Nat.reduceLeDiff, Int.reduceLE, Int.reduceLT, Int.reduceAdd, Int.reduceSub, Int.reduceMul, Int.reduceEq, Int.reduceBEq, Int.reduceBNe, Int.reduceNeg, Int.reduceToNat, reduceCtorEq]
    refine rvC_post (ACall.vc (first := []) (args := [.int .i64 k, .int .i64 N]) (slots_c k N hN (by omega))) ?_
    rintro xv H1 gx
    have hs1 := gx.sub
    have hx := gx.sli (w0 := w0) rfl
    have hio : k ≠ 0 → io < H.length := fun h0 => by
      rcases I.own with h1 | ⟨_, _, h3, _⟩
      · exact absurd h1.1 h0
      · exact get_lt h3
    have hxm : SlI w0 (mk k io H1) xv (bitsL k N) := by
      unfold mk; split
      · exact hx
      · rename_i h0; exact (gx.msk (hio h0)).sli rfl
    have hLL : LL w0 H1 ov (choicesD N k) := (LL_of I.own mk_sub (by rw [I.len, choices_len]) I.at_).sub hs1
    have hlov := hLL.len
    rw [choices_len] at hlov
    obtain ⟨x, ex⟩ : ∃ x, x = bitsL k N := ⟨_, rfl⟩
    rw [← ex] at hx hxm
    have hxl : x.length ≤ 5 := by rw [ex]; exact Nat.le_trans bitsL_len hN
    simp only [go_sem, ↓reduceIte, Nat.reduceEqDiff, Nat.reduceAdd, Nat.reduceSub, Nat.reduceMul, Nat.reduceLT, Nat.reduceLeDiff, Int.reduceLE, Int.reduceLT, Int.reduceAdd, Int.reduceSub, Int.reduceMul, Int.reduceEq, Int.reduceBEq, Int.reduceBNe, Int.reduceNeg, Int.reduceToNat, reduceCtorEq]
    have hown := I.own.sub hs1
    have xo := hx.one
    have reg : ∀ p : Nat, p ≤ k → posC (choicesD N k) x = p → dr Try.prog w0 none 42 h.length (resK w0 [RV.t 2] fun y h' => HSub h h' ∧ LL w0 h' y (choicesD N (2 ^ N))) D81_0 B81_0
        [It.inBlk 1, It.code (SC.reg [MIx.op (some 11) none (MOp.mov (Opd.t 4)), MIx.op (some 12) none (MOp.bin BinOp.add (Opd.t 11) (Opd.k (AV.int IntKind.i64 1))), MIx.op (some 4) none (MOp.mov (Opd.t 12))]),
          It.inLoop [0, 3, 4] L81_1, It.inBlk 0, It.code ((SC.reg [MIx.op (some 41) none (MOp.mov (Opd.t 3)), MIx.op (some 2) none (MOp.mov (Opd.t 41))]).seq SC.ret)]
        [(0, .int .i64 N), (3, ov), (4, .int .i64 k), (5, xv), (6, .int .i64 p)] H1 := fun p hp hpos => by
      have hfin : ∀ (io' : Nat) (ov' : AV) (G : Heap), Gr2 G 1 (k + 1) io' ov' (vs.take p ++ xv :: vs.drop p) → HSub (mk k io H1) (mk (k + 1) io' G) → lp Try.prog w0 none 42 h.length (resK w0 [RV.t 2] fun y h' => HSub h h' ∧ LL w0 h' y (choicesD N (2 ^ N))) L81_1 [It.inBlk 0, It.code ((SC.reg [MIx.op (some 41) none (MOp.mov (Opd.t 3)), MIx.op (some 2) none (MOp.mov (Opd.t 41))]).seq SC.ret)] [(0, .int .i64 N), (3, ov'), (4, .int .i64 ((k : Int) + 1))] G := fun io' ov' G g' s' => by
        have hvl := I.len
        have hcl := choices_len (N := N) k
        have := ih (k + 1, G, ov', io', vs.take p ++ xv :: vs.drop p) ⟨by simp only; omega, (I.sub.trans (mk_mono hs1)).trans s', g', by simp [hvl]; omega, fun j y l e e' => ?_⟩ (by simp only; omega)
        · simpa using this
        · rw [choices_succ, insC, ← ex, hpos] at e'
          have hold : ∀ i y l, vs[i]? = some y → (choicesD N k)[i]? = some l → SlI w0 (mk (k + 1) io' G) y l := fun i y l e1 e2 => ((I.at_ i y l e1 e2).sub (mk_mono hs1)).sub s'
          rcases Nat.lt_trichotomy j p with h1 | h1 | h1
          · rw [List.getElem?_append_left (by simp; omega), List.getElem?_take_of_lt h1] at e e'
            exact hold j y l e e'
          · subst h1
            rw [List.getElem?_append_right (by simp; omega)] at e e'
            rw [show j - (vs.take j).length = 0 by simp; omega] at e
            rw [show j - ((choicesD N k).take j).length = 0 by simp; omega] at e'
            simp at e e'; subst e; subst e'
            exact hxm.sub s'
          · rw [List.getElem?_append_right (by simp; omega)] at e e'
            rw [show j - (vs.take p).length = (j - p - 1) + 1 by simp; omega, List.getElem?_cons_succ, List.getElem?_drop] at e
            rw [show j - ((choicesD N k).take p).length = (j - p - 1) + 1 by simp; omega, List.getElem?_cons_succ, List.getElem?_drop] at e'
            exact hold _ y l e e'
      have hav : av [H1.length] xv := av_bdd (N := H1.length) (hx.bdd (Nat.le_refl _)) (by simp)
      have ms0 : H1.set H1.length none = H1 := List.set_eq_of_length_le (Nat.le_refl _)
      have ms1 : H1.set (H1.length + 1) none = H1 := List.set_eq_of_length_le (by omega)
      have a1 : appA w0 (H1 ++ [some (Blk.row [xv])]) 1 24 .nilS (.sl (.own H1.length 0) 1 1 true) = some (.sl (.own (H1.length + 1) 0) 1 1 false, H1 ++ [some (Blk.row [xv]), some (Blk.row [xv])]) := by
        have := app_nil (w0 := w0) (h := H1) (es := 1) (b := 24) (x := [xv]) (L := [some (Blk.row [xv])]) 0 true (by simp) rfl (by simp [xo.1]) (by omega)
        simpa using this
      rcases hown with ⟨h1, h2, h3⟩ | ⟨h1, h2, h3, h4⟩
      · subst h2; subst h3
        have s1 : ∀ fr, slcV 1 ((31, .int .i64 (p : Int)) :: fr) .nilS none (some (.t 31)) none = some .nilS := fun fr => by
          have : p = 0 := by omega
          simp [slcV, bounds, Opd.ev, Fr.get, asNat, this]
        have s2 : ∀ fr, slcV 1 ((38, .int .i64 (p : Int)) :: fr) .nilS (some (.t 38)) none none = some .nilS := fun fr => by
          have : p = 0 := by omega
          simp [slcV, bounds, Opd.ev, Fr.get, asNat, this]
        have e3 : ∀ H, appA w0 H 1 24 .nilS .nilS = some (.nilS, H) := fun H => by simp [appA, srcOf]
        refine dr_use hmix O81_a [] D81_0.eq_1 O81_a_ok O81_a_ok2 List.nodup_nil (by simp) ?_
        simp only [go_sem, O81_a, xo.1, xo.2, s1, s2, e3, a1, ↓reduceIte, Nat.reduceEqDiff, Nat.reduceAdd, Nat.reduceSub, Nat.reduceMul, Nat.reduceLT, Nat.reduceLeDiff, Int.reduceLE, Int.reduceLT, Int.reduceAdd, Int.reduceSub, Int.reduceMul, Int.reduceEq, Int.reduceBEq, Int.reduceBNe, Int.reduceNeg, Int.reduceToNat, reduceCtorEq]
        refine ⟨(by unfold I64; omega), hfin (H1.length + 1) _ _ (.inr ⟨by omega, by rw [h1], by rw [List.getElem?_append_right (by omega)]; simp, by simp [h1]⟩) ?_⟩
        simp only [mk, h1, if_true]
        rw [if_neg (by omega), List.set_append_right _ _ (by omega)]
        exact HSub.refl.app
      · subst h2
        have hvlen : vs.length = k := by omega
        have hvone : ∀ x ∈ vs, one x = true := fun x hx => by
          obtain ⟨j, hj, rfl⟩ := List.getElem_of_mem hx
          have hjc : j < (choicesD N k).length := by rw [choices_len]; omega
          exact (I.at_ j _ _ (List.getElem?_eq_getElem hj) (List.getElem?_eq_getElem hjc)).one.1
        have hlt := get_lt h3
        have hfl : ∀ l : List AV, (l.map fun x => [x]).flatten = l := fun l => by
          induction l with
          | nil => rfl
          | cons a l ih => simp at ih ⊢; exact ih
        have s1 : ∀ fr, slcV 1 ((31, .int .i64 (p : Int)) :: fr) (.sl (.own io 0) k 1 false) none (some (.t 31)) none = some (.sl (.own io 0) p 1 false) := fun fr => by
          simp [slcV, bounds, Opd.ev, Fr.get, asNat, hp, esOk, fullOf, Pl.add]
        have s2 : ∀ fr, slcV 1 ((38, .int .i64 (p : Int)) :: fr) (.sl (.own io 0) k 1 false) (some (.t 38)) none none = some (.sl (.own io p) (k - p) 1 false) := fun fr => by
          simp [slcV, bounds, Opd.ev, Fr.get, asNat, hp, esOk, fullOf, Pl.add]
        by_cases hp0 : p = 0
        · have e3 : appA w0 H1 1 24 .nilS (.sl (.own io 0) p 1 false) = some (.nilS, H1) := by
            rw [hp0]; simp [appA, srcOf, rdn, h3, esOk]
          have e4 : appA w0 (H1 ++ [some (Blk.row [xv]), some (Blk.row [xv])]) 1 24 (.sl (.own (H1.length + 1) 0) 1 1 false) (.sl (.own io p) (k - p) 1 false) = some (.sl (.own (H1.length + 2) 0) (k + 1) 1 false, H1 ++ [some (Blk.row [xv]), none, some (Blk.row (xv :: vs))]) := by
            have := app_rows (w0 := w0) (H := H1 ++ [some (Blk.row [xv]), some (Blk.row [xv])]) (b := 24) (n := 1) (io := H1.length + 1) (vs := [xv]) (Sl_part (w0 := w0) (o := p) (len := k - p) (getElem?_app_left h3) (by omega)) (fun e => by have := congrArg List.length e; rw [List.length_map, List.length_take, List.length_drop] at this; simp only [List.length_nil] at this; omega) (by
              intro c hc; obtain ⟨x, hx, rfl⟩ := List.mem_map.1 hc
              simp [hvone x (List.mem_of_mem_drop (List.mem_of_mem_take hx))]) (by rw [List.getElem?_append_right (by omega)]; simp) rfl (by omega) (by simp; omega)
            rw [this, hfl, hp0, List.drop_zero, Nat.sub_zero, List.take_of_length_le (by omega), List.set_append_right _ _ (by omega), List.length_map, List.length_append, hvlen]
            simp [Nat.add_comm 1]
          refine dr_use hmix O81_b [] D81_0.eq_1 O81_b_ok O81_b_ok2 List.nodup_nil (by simp) ?_
          simp only [go_sem, O81_b, xo.1, xo.2, s1, s2, ms0, e3, a1, e4, ↓reduceIte, Nat.reduceEqDiff, Nat.reduceAdd, Nat.reduceSub, Nat.reduceMul, Nat.reduceLT, Nat.reduceLeDiff, Int.reduceLE, Int.reduceLT, Int.reduceAdd, Int.reduceSub, Int.reduceMul, Int.reduceEq, Int.reduceBEq, Int.reduceBNe, Int.reduceNeg, Int.reduceToNat, reduceCtorEq]
          refine ⟨by omega, by omega, (by unfold I64; omega), hfin (H1.length + 2) _ _ (.inr ⟨by omega, rfl, by rw [List.getElem?_append_right (by omega), hp0]; simp, by simp; omega⟩) ?_⟩
          simp only [mk]
          rw [if_neg h1, if_neg (by omega), List.set_append_right _ _ (by omega)]
          exact HSub.trans HSub.msk HSub.refl.app
        · have e5 : appA w0 H1 1 24 .nilS (.sl (.own io 0) p 1 false) = some (.sl (.own H1.length 0) p 1 false, H1 ++ [some (Blk.row (vs.take p))]) := by
            have := app_copy (w0 := w0) (H := H1) (b := 24) (Sl_part (w0 := w0) (o := 0) (len := p) h3 (by omega)) (fun e => by have := congrArg List.length e; rw [List.length_map, List.length_take, List.length_drop] at this; simp only [List.length_nil] at this; omega) (by
              intro c hc; obtain ⟨x, hx, rfl⟩ := List.mem_map.1 hc
              simp [hvone x (List.mem_of_mem_drop (List.mem_of_mem_take hx))]) (by omega) (by simp; omega)
            rw [this, hfl, List.drop_zero, List.length_map, List.length_take]
            simp; omega
          have e6 : appA w0 (H1 ++ [some (Blk.row (vs.take p)), some (Blk.row [xv])]) 1 24 (.sl (.own H1.length 0) p 1 false) (.sl (.own (H1.length + 1) 0) 1 1 true) = some (.sl (.own (H1.length + 2) 0) (p + 1) 1 false, H1 ++ [none, some (Blk.row [xv]), some (Blk.row (vs.take p ++ [xv]))]) := by
            have := app_own (w0 := w0) (h := H1) (es := 1) (b := 24) (n := p) (x := [xv]) (old := vs.take p) (L := [some (Blk.row (vs.take p)), some (Blk.row [xv])]) 0 1 true (by simp) (by simp; omega) (by simp) rfl (by simp [xo.1]) (by omega) (by omega)
            simpa using this
          by_cases hpk : p = k
          · have e7 : appA w0 (H1 ++ [none, some (Blk.row [xv]), some (Blk.row (vs.take p ++ [xv]))]) 1 24 (.sl (.own (H1.length + 2) 0) (p + 1) 1 false) (.sl (.own io p) (k - p) 1 false) = some (.sl (.own (H1.length + 2) 0) (p + 1) 1 false, H1 ++ [none, some (Blk.row [xv]), some (Blk.row (vs.take p ++ [xv]))]) := by
              rw [hpk, Nat.sub_self]; simp [appA, srcOf, rdn, getElem?_app_left h3, esOk, hvlen]
            refine dr_use hmix O81_c [] D81_0.eq_1 O81_c_ok O81_c_ok2 List.nodup_nil (by simp) ?_
            simp only [go_sem, O81_c, xo.1, xo.2, s1, s2, ms1, e5, e6, e7, ↓reduceIte, Nat.reduceEqDiff, Nat.reduceAdd, Nat.reduceSub, Nat.reduceMul, Nat.reduceLT, Nat.reduceLeDiff, Int.reduceLE, Int.reduceLT, Int.reduceAdd, Int.reduceSub, Int.reduceMul, Int.reduceEq, Int.reduceBEq, Int.reduceBNe, Int.reduceNeg, Int.reduceToNat, reduceCtorEq]
            refine ⟨hav, hav, by omega, by omega, (by unfold I64; omega), hfin (H1.length + 2) _ _ (.inr ⟨by omega, by rw [hpk], by rw [List.getElem?_append_right (by omega), List.drop_eq_nil_of_le (show vs.length ≤ p by omega)]; simp, by simp; omega⟩) ?_⟩
            simp only [mk]
            rw [if_neg h1, if_neg (by omega), List.set_append_right _ _ (by omega)]
            exact HSub.trans HSub.msk HSub.refl.app
          · have e7 : appA w0 (H1 ++ [none, some (Blk.row [xv]), some (Blk.row (vs.take p ++ [xv]))]) 1 24 (.sl (.own (H1.length + 2) 0) (p + 1) 1 false) (.sl (.own io p) (k - p) 1 false) = some (.sl (.own (H1.length + 3) 0) (k + 1) 1 false, H1 ++ [none, some (Blk.row [xv]), none, some (Blk.row (vs.take p ++ xv :: vs.drop p))]) := by
              have := app_rows (w0 := w0) (H := H1 ++ [none, some (Blk.row [xv]), some (Blk.row (vs.take p ++ [xv]))]) (b := 24) (n := p + 1) (io := H1.length + 2) (vs := vs.take p ++ [xv]) (Sl_part (w0 := w0) (o := p) (len := k - p) (getElem?_app_left h3) (by omega)) (by simp; omega) (by
                intro c hc; obtain ⟨x, hx, rfl⟩ := List.mem_map.1 hc
                simp [hvone x (List.mem_of_mem_drop (List.mem_of_mem_take hx))]) (by rw [List.getElem?_append_right (by omega)]; simp) (by simp; omega) (by omega) (by simp; omega)
              rw [this, hfl, show (vs.drop p).take (k - p) = vs.drop p from List.take_of_length_le (by rw [List.length_drop]; omega), List.set_append_right _ _ (by omega), List.length_map, List.length_append, List.length_drop, hvlen]
              simp; omega
            refine dr_use hmix O81_0 [] D81_0.eq_1 O81_0_ok O81_0_ok2 List.nodup_nil (by simp) ?_
            simp only [go_sem, O81_0, xo.1, xo.2, s1, s2, ms1, e5, e6, e7, ↓reduceIte, Nat.reduceEqDiff, Nat.reduceAdd, Nat.reduceSub, Nat.reduceMul, Nat.reduceLT, Nat.reduceLeDiff, Int.reduceLE, Int.reduceLT, Int.reduceAdd, Int.reduceSub, Int.reduceMul, Int.reduceEq, Int.reduceBEq, Int.reduceBNe, Int.reduceNeg, Int.reduceToNat, reduceCtorEq]
            refine ⟨hav, hav, by omega, by omega, (by unfold I64; omega), hfin (H1.length + 3) _ _ (.inr ⟨by omega, rfl, by rw [List.getElem?_append_right (by omega)]; simp, by simp; omega⟩) ?_⟩
            simp only [mk]
            rw [if_neg h1, if_neg (by omega), List.set_append_right _ _ (by omega)]
            exact HSub.trans HSub.msk HSub.refl.app
    refine lp_all (fun i => [(0, .int .i64 N), (3, ov), (4, .int .i64 k), (5, xv), (6, .int .i64 i)]) (fun i => ∀ hi : i < (choicesD N k).length, lessI (choicesD N k)[i] x = true) k rfl (fun i hi hall ih2 => ?_) (fun hall => ?_)
    · refine lp_step hmix L81_0_g [0, 3, 4, 5, 6] L81_0.eq_1 ?_
      have m1 : (i : Int) < k := by omega
      have hil : i < (choicesD N k).length := by rw [choices_len]; exact hi
      obtain ⟨pp, xx, t1, t2, t3⟩ := hLL.list hil
      have t2' := t2 []
      rw [List.append_nil] at t2'
      have hcl : (choicesD N k)[i].length < 1000000 := by
        obtain ⟨bits, _, e⟩ := choices_mem.1 (List.getElem_mem hil)
        rw [e]; have := bitsL_len (bits := bits) (j := N); omega
      simp only [go_sem, hlov, m1, t1, t2, t2', ↓reduceIte, Nat.reduceEqDiff, Nat.reduceAdd, Nat.reduceSub, Nat.reduceMul, Nat.reduceLT, Nat.reduceLeDiff, Int.reduceLE, Int.reduceLT, Int.reduceAdd, Int.reduceSub, Int.reduceMul, Int.reduceEq, Int.reduceBEq, Int.reduceBNe, Int.reduceNeg, Int.reduceToNat, reduceCtorEq]
      refine rvC_use (lessI_c _ x xx xv t3 hx hcl).v ?_
      simp only [go_sem, ↓reduceIte, Nat.reduceEqDiff, Nat.reduceAdd, Nat.reduceSub, Nat.reduceMul, Nat.reduceLT, Nat.reduceLeDiff, Int.reduceLE, Int.reduceLT, Int.reduceAdd, Int.reduceSub, Int.reduceMul, Int.reduceEq, Int.reduceBEq, Int.reduceBNe, Int.reduceNeg, Int.reduceToNat, reduceCtorEq]
      refine ⟨fun e => ⟨(by unfold I64; omega), ih2 fun _ => e⟩, fun e => dr_keep [0, 3, 4, 5, 6] ?_⟩
      simp only [go_sem, ↓reduceIte, Nat.reduceEqDiff, Nat.reduceAdd, Nat.reduceSub, Nat.reduceMul, Nat.reduceLT, Nat.reduceLeDiff, Int.reduceLE, Int.reduceLT, Int.reduceAdd, Int.reduceSub, Int.reduceMul, Int.reduceEq, Int.reduceBEq, Int.reduceBNe, Int.reduceNeg, Int.reduceToNat, reduceCtorEq]
      exact reg i (by omega) (posC_at (by omega) (fun j hj hj2 => hall j hj hj2) fun _ => e)
    · refine lp_step hmix L81_0_g [0, 3, 4, 5, 6] L81_0.eq_1 ?_
      have m1 : ¬ (k : Int) < k := by omega
      simp only [go_sem, hlov, m1, ↓reduceIte, Nat.reduceEqDiff, Nat.reduceAdd, Nat.reduceSub, Nat.reduceMul, Nat.reduceLT, Nat.reduceLeDiff, Int.reduceLE, Int.reduceLT, Int.reduceAdd, Int.reduceSub, Int.reduceMul, Int.reduceEq, Int.reduceBEq, Int.reduceBNe, Int.reduceNeg, Int.reduceToNat, reduceCtorEq]
      refine dr_keep [0, 3, 4, 5, 6] ?_
      simp only [go_sem, ↓reduceIte, Nat.reduceEqDiff, Nat.reduceAdd, Nat.reduceSub, Nat.reduceMul, Nat.reduceLT, Nat.reduceLeDiff, Int.reduceLE, Int.reduceLT, Int.reduceAdd, Int.reduceSub, Int.reduceMul, Int.reduceEq, Int.reduceBEq, Int.reduceBNe, Int.reduceNeg, Int.reduceToNat, reduceCtorEq]
      exact reg k (Nat.le_refl _) (posC_at (by rw [choices_len]; exact Nat.le_refl _) (fun j hj hj2 => hall j hj hj2) fun h => by rw [choices_len] at h; omega)
  · have hkE : k = 2 ^ N := by omega
    subst hkE
    have e1 : ¬ ((2 ^ N : Nat) : Int) < ((2 ^ N : Nat) : Int) := by omega
    simp only [go_sem, e2, e1, ↓reduceIte, Nat.reduceEqDiff, Nat.reduceAdd, Nat.reduceSub, Nat.reduceMul, Nat.reduceLT, Nat.reduceLeDiff, Int.reduceLE, Int.reduceLT, Int.reduceAdd, Int.reduceSub, Int.reduceMul, Int.reduceEq, Int.reduceBEq, Int.reduceBNe, Int.reduceNeg, Int.reduceToNat, reduceCtorEq]
    exact ⟨hsH, LL_of I.own mk_sub (by rw [I.len, choices_len]) I.at_⟩
end Go.Proofs.Ab

namespace Go.Proofs.Ab
open Go Go.Proofs
variable {w0 : World} {h : Heap}
attribute [local irreducible] ACall ACallV AYield DCall DCallV rvC rdC lp rg dr ex un rv rd'

structure Ch3 where
  at_ : Int
  nights : Int
  changes : Int
@[go_sem] def Ch3.c (x : Ch3) : List AV := [.int .i64 x.at_, .int .i64 x.nights, .int .i64 x.changes]
@[simp] theorem Ch3.c_bdd (N : Nat) (s : Ch3) : AV.bdds N s.c := by simp [Ch3.c, AV.bdds, AV.bdd]
def allC (b : BayD) : List (List Int) := choicesD b.slots.length (2 ^ b.slots.length)
def putB (b : BayD) (x : Nat) : List Int := putsD (b.days.length + 1) b.slots.length x
def prevB (b : BayD) (prev : List Ch3) (n : Nat) (p : List Int) (i : Nat) : Ch3 := prev.getD (afterR b p n ((allC b).getD i [])).toNat ⟨0, 0, 0⟩
def okB (b : BayD) (prev : List Ch3) (n : Nat) (p : List Int) (i : Nat) : Bool := (p.all fun x => decide (x < n)) && (decide (0 ≤ afterR b p n ((allC b).getD i [])) && decide (0 ≤ (prevB b prev n p i).at_))
def candB (b : BayD) (prev : List Ch3) (n : Nat) (p : List Int) (i : Nat) : Ch3 := ⟨i, (prevB b prev n p i).nights + min 1 ((allC b).getD i []).length, (prevB b prev n p i).changes + ((allC b).getD i []).length⟩
def lessB (d c : Ch3) : Bool := decide (c.at_ < 0) || (decide (d.nights < c.nights) || (decide (d.nights = c.nights) && decide (d.changes < c.changes)))
def stepB (b : BayD) (prev : List Ch3) (n : Nat) (p : List Int) (cur : Ch3) (i : Nat) : Ch3 := if okB b prev n p i = true then (if lessB (candB b prev n p i) cur = true then candB b prev n p i else cur) else cur
def pickB (b : BayD) (prev : List Ch3) (n : Nat) (x : Nat) : Ch3 := (List.range (allC b).length).foldl (stepB b prev n (putB b x)) ⟨-1, 0, 0⟩

structure BI (w0 : World) (M : Heap) (b : BayD) (v : BayV) (tv av pv : AV) (ibx ib n : Nat) (bl : List AV) (prev : List Ch3) (p : List Int) : Prop where
  bx : M[ibx]? = some (some (.row (bayC b v)))
  R : BayR w0 M b v
  T : LL w0 M tv (tableD b)
  A : LL w0 M av (allC b)
  bb : M[ib]? = some (some (.row bl))
  len : bl.length = b.days.length + 1
  lv : ∃ x, bl[n + 1]? = some x ∧ Sl w0 M 3 x (prev.map Ch3.c)
  P : SlI w0 M pv p
theorem BI.sub {M M' : Heap} {b : BayD} {v : BayV} {tv av pv : AV} {ibx ib n : Nat} {bl : List AV} {prev : List Ch3} {p : List Int} (s : BI w0 M b v tv av pv ibx ib n bl prev p) (u : HSub M M') : BI w0 M' b v tv av pv ibx ib n bl prev p :=
  ⟨u.2 _ _ s.bx, s.R.sub u, s.T.sub u, s.A.sub u, u.2 _ _ s.bb, s.len, (by obtain ⟨x, h1, h2⟩ := s.lv; exact ⟨x, h1, h2.sub u⟩), s.P.sub u⟩

theorem after_lt {b : BayD} {p : List Int} {n : Nat} {c : List Int} (hn : n < b.days.length) (hp : p.length = b.slots.length) (hpb : ∀ x ∈ p, -1 ≤ x ∧ x < (n : Int)) : -1 ≤ afterR b p n c ∧ afterR b p n c < ((b.days.length + 1) ^ b.slots.length : Nat) := by
  have := encN_bd (B := b.days.length + 1) (by omega) (p := putD n p (c.map Int.toNat)) fun x hx => by
    have := putD_bd (c := c.map Int.toNat) hpb x hx; omega
  rw [putD_len, hp] at this
  unfold afterR
  repeat' split
  all_goals omega
theorem allC_ok {b : BayD} {c : List Int} (h : c ∈ allC b) : (∀ x ∈ c, 0 ≤ x ∧ x < b.slots.length) ∧ c.length ≤ b.slots.length := by
  obtain ⟨bits, _, rfl⟩ := choices_mem.1 h
  exact ⟨fun x hx => by have := bitsL_lt x hx; omega, bitsL_len⟩

set_option maxRecDepth 20000 in
set_option maxHeartbeats 4000000 in
theorem pick_lp (b : BayD) (v : BayV) (tv av pv : AV) (ibx ib ic n x many : Nat) (bl : List AV) (prev : List Ch3) (H : Heap) (Z : Nat) (Q : Exit → Fr → Heap → Prop) (k : List It) (hB : bayB b = true) (hN : b.slots.length ≤ 3) (hn : n < b.days.length)
    (I : BI w0 (H.set ic none) b v tv av pv ibx ib n bl prev (putB b x)) (hc : H[ic]? = some (some (.row (Ch3.c ⟨-1, 0, 0⟩)))) (hprev : ∀ y : Nat, y < many → y < prev.length) (hmany : many = (b.days.length + 1) ^ b.slots.length)
    (hpb : ∀ z ∈ prev, -1 ≤ z.at_ ∧ z.at_ < 1000 ∧ 0 ≤ z.nights ∧ z.nights < 1000 ∧ 0 ≤ z.changes ∧ z.changes < 1000)
    (hK : ∀ H', HSub (H.set ic none) (H'.set ic none) → H'[ic]? = some (some (.row (pickB b prev n x).c)) → dr Try.prog w0 none 221 Z Q D33_2 B33_2 k [(1, .ptr (.own ibx 0)), (4, tv), (5, av), (6, .int .i64 many), (8, .sl (.own ib 0) (b.days.length + 1) 1 true), (9, .int .i64 n), (10, .int .i64 x), (12, .ptr (.own ic 0))] H') :
    lp Try.prog w0 none 221 Z Q L33_1 (.inBlk 6 :: .code (.draw [] D33_2 B33_2) :: k) [(1, .ptr (.own ibx 0)), (4, tv), (5, av), (6, .int .i64 many), (8, .sl (.own ib 0) (b.days.length + 1) 1 true), (9, .int .i64 n), (10, .int .i64 x), (11, pv), (12, .ptr (.own ic 0)), (13, .int .i64 0)] H := by
  have bs := bayB_spec hB
  have hal : (allC b).length = 2 ^ b.slots.length := choices_len _
  have hpw : 2 ^ b.slots.length ≤ 2 ^ 3 := Nat.pow_le_pow_right (by omega) hN
  have hlA := I.A.len
  refine lp_ind (S := Nat × Heap × Ch3) (F := fun s => [(1, .ptr (.own ibx 0)), (4, tv), (5, av), (6, .int .i64 many), (8, .sl (.own ib 0) (b.days.length + 1) 1 true), (9, .int .i64 n), (10, .int .i64 x), (11, pv), (12, .ptr (.own ic 0)), (13, .int .i64 s.1)]) (H := fun s => s.2.1) (meas := fun s => (allC b).length - s.1)
    (Inv := fun s => s.1 ≤ (allC b).length ∧ HSub (H.set ic none) (s.2.1.set ic none) ∧ s.2.1[ic]? = some (some (.row s.2.2.c)) ∧ s.2.2 = (List.range s.1).foldl (stepB b prev n (putB b x)) ⟨-1, 0, 0⟩ ∧ (-1 ≤ s.2.2.at_ ∧ s.2.2.at_ < 1000))
    (0, H, ⟨-1, 0, 0⟩) ⟨Nat.zero_le _, HSub.refl, hc, rfl, by simp⟩ rfl rfl ?_
  rintro ⟨i, G, cur⟩ ⟨hi, hs, hcr, hcur, hcb⟩ ih
  simp only at hi hs hcr hcur hcb ih
  have J := I.sub hs
  have J' := J.sub HSub.msk
  have hicl := get_lt hcr
  refine lp_step hmix L33_1_g [1, 4, 5, 6, 8, 9, 10, 11, 12, 13] L33_1.eq_1 ?_
  by_cases hin : i < (allC b).length
  · have m1 : (i : Int) < (allC b).length := by omega
    simp only [go_sem, hlA, m1, ↓reduceIte, Nat.reduceEqDiff, Nat.reduceAdd, Nat.reduceSub, Nat.reduceMul, Nat.reduceLT, Nat.reduceLeDiff, Int.reduceLE, Int.reduceLT, Int.reduceAdd, Int.reduceSub, Int.reduceMul, Int.reduceEq, Int.reduceBEq, Int.reduceBNe, Int.reduceNeg, Int.reduceToNat, reduceCtorEq]
    refine rvC_use (past_c (putB b x) n pv J'.P (by rw [putB, putsD_len]; omega)).v ?_
    simp only [go_sem, ↓reduceIte, Nat.reduceEqDiff, Nat.reduceAdd, Nat.reduceSub, Nat.reduceMul, Nat.reduceLT, Nat.reduceLeDiff, Int.reduceLE, Int.reduceLT, Int.reduceAdd, Int.reduceSub, Int.reduceMul, Int.reduceEq, Int.reduceBEq, Int.reduceBNe, Int.reduceNeg, Int.reduceToNat, reduceCtorEq]
    obtain ⟨cl, ecl⟩ : ∃ cl, cl = (allC b)[i] := ⟨_, rfl⟩
    have gcl : (allC b).getD i [] = cl := by rw [getD_at hin, ecl]
    have hclm := allC_ok (b := b) (c := cl) (by rw [ecl]; exact List.getElem_mem hin)
    obtain ⟨pp, xx, t1, t2, t3⟩ := J'.A.list hin
    rw [← ecl] at t3
    have t2' := t2 []
    rw [List.append_nil] at t2'
    have hbx := J'.bx
    have hnext : (List.range (i + 1)).foldl (stepB b prev n (putB b x)) ⟨-1, 0, 0⟩ = stepB b prev n (putB b x) cur i := by rw [List.range_succ, List.foldl_append, ← hcur]; rfl
    have hskip : okB b prev n (putB b x) i = false → ∀ L, lp Try.prog w0 none 221 Z Q L33_1 (.inBlk 6 :: .code (.draw [] D33_2 B33_2) :: k) [(1, .ptr (.own ibx 0)), (4, tv), (5, av), (6, .int .i64 many), (8, .sl (.own ib 0) (b.days.length + 1) 1 true), (9, .int .i64 n), (10, .int .i64 x), (11, pv), (12, .ptr (.own ic 0)), (13, .int .i64 ((i : Int) + 1))] (G ++ L) := fun e L => by
      have := ih (i + 1, G ++ L, cur) ⟨by simp only; omega, by simp only; rw [set_app_lt hicl]; exact hs.app, getElem?_app_left hcr, by simp only; rw [hnext, stepB, e]; rfl, hcb⟩ (by simp only; omega)
      simpa using this
    refine ⟨fun e1 => ?_, fun e1 => ?_⟩
    · have hp1 : ∀ z ∈ putB b x, -1 ≤ z ∧ z < (n : Int) := fun z hz => by
        rw [List.all_eq_true] at e1
        have h1 := e1 z hz
        simp only [decide_eq_true_eq] at h1
        simp only [putB, putsD, List.mem_map] at hz
        obtain ⟨s, _, rfl⟩ := hz
        omega
      have hal2 := after_lt (c := cl) hn (by rw [putB, putsD_len]) hp1
      obtain ⟨y, ey⟩ : ∃ y, y = afterR b (putB b x) n cl := ⟨_, rfl⟩
      have hac := after_c b v tv pv xx (putB b x) n cl J'.R hB J'.T J'.P (by rw [putB, putsD_len]) hn hp1 t3 hclm.1 (by omega)
      rw [← ey] at hac hal2
      simp only [go_sem, hbx, t1, t2', ↓reduceIte, Nat.reduceEqDiff, Nat.reduceAdd, Nat.reduceSub, Nat.reduceMul, Nat.reduceLT, Nat.reduceLeDiff, Int.reduceLE, Int.reduceLT, Int.reduceAdd, Int.reduceSub, Int.reduceMul, Int.reduceEq, Int.reduceBEq, Int.reduceBNe, Int.reduceNeg, Int.reduceToNat, reduceCtorEq]
      refine rdC_q hac.v ?_
      obtain ⟨lv, lv1, lv2⟩ := J'.lv
      obtain ⟨lvl, q, lx, lr, _⟩ := lv2.use
      simp only [List.length_map] at lx
      have hbb := J'.bb
      have hbl := J'.len
      have d2 : asNat (.int .i64 ((n : Int) + 1)) = some (n + 1) := by rw [show (n : Int) + 1 = ((n + 1 : Nat) : Int) by omega]; exact asNat_n
      by_cases hy : y < 0
      · simp only [go_sem, hy, ↓reduceIte, Nat.reduceEqDiff, Nat.reduceAdd, Nat.reduceSub, Nat.reduceMul, Nat.reduceLT, Nat.reduceLeDiff, Int.reduceLE, Int.reduceLT, Int.reduceAdd, Int.reduceSub, Int.reduceMul, Int.reduceEq, Int.reduceBEq, Int.reduceBNe, Int.reduceNeg, Int.reduceToNat, reduceCtorEq]
        have := hskip (by rw [okB, gcl, ← ey, decide_eq_false (by omega)]; simp) []
        rw [List.append_nil] at this
        exact ⟨(by unfold I64; omega), this⟩
      · obtain ⟨yn, eyn⟩ : ∃ yn : Nat, y = yn := ⟨y.toNat, by omega⟩
        have hyp : yn < prev.length := hprev yn (by rw [hmany]; omega)
        obtain ⟨pr, epr⟩ : ∃ pr, pr = prev[yn] := ⟨_, rfl⟩
        have hprb := hpb pr (by rw [epr]; exact List.getElem_mem hyp)
        have gpr : prevB b prev n (putB b x) i = pr := by rw [prevB, gcl, ← ey, eyn, Int.toNat_natCast, getD_at hyp, epr]
        have i1 := lx yn hyp
        have r0 := lr yn _ (by simp [hyp, ← epr]; rfl)
        have r1 : rd w0 G ((q.add (yn * 3)).add 0) = some (.int .i64 pr.at_) := rd_get r0 rfl
        rw [eyn]
        have hy2 : ¬ (yn : Int) < 0 := by omega
        have r2 : rd w0 G ((q.add (yn * 3)).add 1) = some (.int .i64 pr.nights) := rd_get r0 rfl
        have r3 : rd w0 G ((q.add (yn * 3)).add 2) = some (.int .i64 pr.changes) := rd_get r0 rfl
        have ms0 : G.set G.length none = G := List.set_eq_of_length_le (Nat.le_refl _)
        have lcl : lenV xx = some (.int .i64 cl.length) := (SlI.use t3).1
        simp only [go_sem, hy2, hbb, hbl, lv1, d2, Nat.mul_one, i1, r1, ↓reduceIte, Nat.reduceEqDiff, Nat.reduceAdd, Nat.reduceSub, Nat.reduceMul, Nat.reduceLT, Nat.reduceLeDiff, Int.reduceLE, Int.reduceLT, Int.reduceAdd, Int.reduceSub, Int.reduceMul, Int.reduceEq, Int.reduceBEq, Int.reduceBNe, Int.reduceNeg, Int.reduceToNat, reduceCtorEq]
        refine ⟨(by unfold I64; omega), by omega, fun e3 => ⟨(by unfold I64; omega), ?_⟩, fun e3 => ?_⟩
        · have := hskip (by rw [okB, gpr, decide_eq_false (show ¬ 0 ≤ pr.at_ by omega)]; simp) []
          rw [List.append_nil] at this
          exact this
        · have hok : okB b prev n (putB b x) i = true := by rw [okB, e1, gcl, gpr, ← ey, decide_eq_true (by omega), decide_eq_true (by omega)]; rfl
          have hcand : candB b prev n (putB b x) i = ⟨i, pr.nights + min 1 (cl.length : Int), pr.changes + cl.length⟩ := by
            rw [candB, gpr, gcl]; simp only [Ch3.mk.injEq, true_and, and_true]; omega
          have hc1 : ∀ L, (G ++ L)[ic]? = some (some (.row cur.c)) := fun L => getElem?_app_left hcr
          refine dr_use hmix O33_1 [] D33_1.eq_1 O33_1_ok O33_1_ok2 List.nodup_nil (by simp) ?_
          simp only [go_sem, O33_1, ms0, hbb, hbl, lv1, d2, Nat.mul_one, i1, r2, r3, t1, t2', lcl, ↓reduceIte, Nat.reduceEqDiff, Nat.reduceAdd, Nat.reduceSub, Nat.reduceMul, Nat.reduceLT, Nat.reduceLeDiff, Int.reduceLE, Int.reduceLT, Int.reduceAdd, Int.reduceSub, Int.reduceMul, Int.reduceEq, Int.reduceBEq, Int.reduceBNe, Int.reduceNeg, Int.reduceToNat, reduceCtorEq]
          refine ⟨(by unfold I64; omega), by omega, (by unfold I64; omega), (by unfold I64; omega), by omega, (by unfold I64; omega), ?_⟩
          have hstep : stepB b prev n (putB b x) cur i = if lessB (candB b prev n (putB b x) i) cur = true then candB b prev n (putB b x) i else cur := by rw [stepB, hok, if_pos rfl]
          have kT : lessB (candB b prev n (putB b x) i) cur = true → lp Try.prog w0 none 221 Z Q L33_1 (.inBlk 6 :: .code (.draw [] D33_2 B33_2) :: k) [(1, .ptr (.own ibx 0)), (4, tv), (5, av), (6, .int .i64 many), (8, .sl (.own ib 0) (b.days.length + 1) 1 true), (9, .int .i64 n), (10, .int .i64 x), (11, pv), (12, .ptr (.own ic 0)), (13, .int .i64 ((i : Int) + 1))]
              ((G ++ [some (Blk.row [.int .i64 i, .int .i64 (pr.nights + min 1 (cl.length : Int)), .int .i64 (pr.changes + cl.length)])]).set ic (some (Blk.row [.int .i64 i, .int .i64 (pr.nights + min 1 (cl.length : Int)), .int .i64 (pr.changes + cl.length)]))) := fun e => by
            have := ih (i + 1, (G ++ [some (Blk.row (candB b prev n (putB b x) i).c)]).set ic (some (Blk.row (candB b prev n (putB b x) i).c)), candB b prev n (putB b x) i) ⟨by simp only; omega, (by simp only [List.set_set]; rw [set_app_lt hicl]; exact hs.app), by simp only; rw [List.getElem?_set_self (by rw [List.length_append]; omega)], by simp only; rw [hnext, hstep, if_pos e], by rw [hcand]; simp; omega⟩ (by simp only; omega)
            rw [hcand] at this
            simpa [Ch3.c] using this
          have kF : lessB (candB b prev n (putB b x) i) cur = false → lp Try.prog w0 none 221 Z Q L33_1 (.inBlk 6 :: .code (.draw [] D33_2 B33_2) :: k) [(1, .ptr (.own ibx 0)), (4, tv), (5, av), (6, .int .i64 many), (8, .sl (.own ib 0) (b.days.length + 1) 1 true), (9, .int .i64 n), (10, .int .i64 x), (11, pv), (12, .ptr (.own ic 0)), (13, .int .i64 ((i : Int) + 1))]
              (G ++ [some (Blk.row [.int .i64 i, .int .i64 (pr.nights + min 1 (cl.length : Int)), .int .i64 (pr.changes + cl.length)])]) := fun e => by
            have := ih (i + 1, G ++ [some (Blk.row (candB b prev n (putB b x) i).c)], cur) ⟨by simp only; omega, (by simp only; rw [set_app_lt hicl]; exact hs.app), getElem?_app_left hcr, by simp only; rw [hnext, hstep, e]; rfl, hcb⟩ (by simp only; omega)
            rw [hcand] at this
            simpa [Ch3.c] using this
          rw [hcand] at kT kF
          simp only [lessB, Bool.or_eq_true, Bool.and_eq_true, Bool.or_eq_false_iff, Bool.and_eq_false_iff, decide_eq_true_eq, decide_eq_false_iff_not] at kT kF
          clear hcand hstep hok
          simp only [go_sem, hc1, ↓reduceIte, Nat.reduceEqDiff, Nat.reduceAdd, Nat.reduceSub, Nat.reduceMul, Nat.reduceLT, Nat.reduceLeDiff, Int.reduceLE, Int.reduceLT, Int.reduceAdd, Int.reduceSub, Int.reduceMul, Int.reduceEq, Int.reduceBEq, Int.reduceBNe, Int.reduceNeg, Int.reduceToNat, reduceCtorEq]
          refine ⟨fun c1 => ⟨fun c2 => ⟨fun c3 => ⟨fun c4 => ⟨(by unfold I64; omega), kT (.inr (.inr ⟨c3, c4⟩))⟩, fun c4 => ⟨(by unfold I64; omega), kF ⟨c1, c2, .inr c4⟩⟩⟩, fun c3 => ⟨(by unfold I64; omega), kF ⟨c1, c2, .inl c3⟩⟩⟩, fun c2 => ⟨(by unfold I64; omega), kT (.inr (.inl c2))⟩⟩, fun c1 => ⟨(by unfold I64; omega), kT (.inl c1)⟩⟩
    · have := hskip (by rw [okB, e1]; rfl) []
      rw [List.append_nil] at this
      exact ⟨(by unfold I64; omega), this⟩
  · have hiE : i = (allC b).length := by omega
    subst hiE
    have m1 : ¬ ((allC b).length : Int) < (allC b).length := by omega
    simp only [go_sem, hlA, m1, ↓reduceIte, Nat.reduceEqDiff, Nat.reduceAdd, Nat.reduceSub, Nat.reduceMul, Nat.reduceLT, Nat.reduceLeDiff, Int.reduceLE, Int.reduceLT, Int.reduceAdd, Int.reduceSub, Int.reduceMul, Int.reduceEq, Int.reduceBEq, Int.reduceBNe, Int.reduceNeg, Int.reduceToNat, reduceCtorEq]
    refine dr_keep [1, 4, 5, 6, 8, 9, 10, 12] ?_
    simp only [go_sem, ↓reduceIte, Nat.reduceEqDiff, Nat.reduceAdd, Nat.reduceSub, Nat.reduceMul, Nat.reduceLT, Nat.reduceLeDiff, Int.reduceLE, Int.reduceLT, Int.reduceAdd, Int.reduceSub, Int.reduceMul, Int.reduceEq, Int.reduceBEq, Int.reduceBNe, Int.reduceNeg, Int.reduceToNat, reduceCtorEq]
    refine hK G hs ?_
    rw [hcur] at hcr
    exact hcr
end Go.Proofs.Ab

namespace Go.Proofs.Ab
open Go Go.Proofs
variable {w0 : World} {h : Heap}
attribute [local irreducible] ACall ACallV AYield DCall DCallV rvC rdC lp rg dr ex un rv rd'

def levB (b : BayD) (many : Nat) : Nat → List Ch3
  | 0 => List.replicate many ⟨0, 0, 0⟩
  | k + 1 => (List.range many).map fun x => pickB b (levB b many k) (b.days.length - (k + 1)) x
theorem levB_len {b : BayD} {many : Nat} : ∀ k, (levB b many k).length = many
  | 0 => by simp [levB]
  | k + 1 => by simp [levB]
def okC (k : Nat) (z : Ch3) : Prop := -1 ≤ z.at_ ∧ z.at_ < 8 ∧ 0 ≤ z.nights ∧ z.nights ≤ k ∧ 0 ≤ z.changes ∧ z.changes ≤ 3 * k
theorem pickB_ok {b : BayD} (hN : b.slots.length ≤ 3) {prev : List Ch3} {k n x : Nat} (hp : ∀ z ∈ prev, okC k z) : okC (k + 1) (pickB b prev n x) := by
  have hal : (allC b).length ≤ 8 := by
    rw [allC, choices_len]
    exact Nat.le_trans (Nat.pow_le_pow_right (by omega) hN) (by decide)
  have hg : ∀ y, okC k (prev.getD y ⟨0, 0, 0⟩) := fun y => by
    rcases Nat.lt_or_ge y prev.length with h | h
    · rw [getD_at h]; exact hp _ (List.getElem_mem h)
    · rw [List.getD_eq_getElem?_getD, List.getElem?_eq_none h]; simp [okC]; omega
  have : ∀ (l : List Nat) (cur : Ch3), (∀ i ∈ l, i < (allC b).length) → okC (k + 1) cur → okC (k + 1) (l.foldl (stepB b prev n (putB b x)) cur) := by
    intro l
    induction l with
    | nil => intro cur _ h; exact h
    | cons i l ih =>
      intro cur hl hc
      rw [List.foldl_cons]
      refine ih _ (fun j hj => hl j (List.mem_cons_of_mem _ hj)) ?_
      unfold stepB
      split
      · split
        · have hi := hl i List.mem_cons_self
          have h1 := hg (afterR b (putB b x) n ((allC b).getD i [])).toNat
          have h2 := (allC_ok (b := b) (c := (allC b).getD i []) (by rw [getD_at hi]; exact List.getElem_mem hi)).2
          simp only [okC, candB, prevB] at h1 ⊢
          omega
        · exact hc
      · exact hc
  exact this _ _ (fun i hi => List.mem_range.1 hi) (by simp [okC]; omega)
theorem levB_ok {b : BayD} (hN : b.slots.length ≤ 3) {many : Nat} : ∀ k, ∀ z ∈ levB b many k, okC k z
  | 0, z, hz => by
    simp only [levB, List.mem_replicate] at hz
    rw [hz.2]; simp [okC]
  | k + 1, z, hz => by
    simp only [levB, List.mem_map] at hz
    obtain ⟨x, _, rfl⟩ := hz
    exact pickB_ok hN (levB_ok hN k)

structure LI (w0 : World) (M : Heap) (b : BayD) (v : BayV) (tv av : AV) (ibx n many : Nat) (bl : List AV) : Prop where
  bx : M[ibx]? = some (some (.row (bayC b v)))
  R : BayR w0 M b v
  T : LL w0 M tv (tableD b)
  A : LL w0 M av (allC b)
  len : bl.length = b.days.length + 1
  lv : ∀ k, n < k → k ≤ b.days.length → ∃ x, bl[k]? = some x ∧ Sl w0 M 3 x ((levB b many (b.days.length - k)).map Ch3.c)
theorem LI.sub {M M' : Heap} {b : BayD} {v : BayV} {tv av : AV} {ibx n many : Nat} {bl bl' : List AV} (s : LI w0 M b v tv av ibx n many bl) (u : HSub M M') (hl : bl'.length = bl.length) (hb : ∀ k, n < k → bl'[k]? = bl[k]?) : LI w0 M' b v tv av ibx n many bl' :=
  ⟨u.2 _ _ s.bx, s.R.sub u, s.T.sub u, s.A.sub u, by rw [hl, s.len], fun k h1 h2 => by obtain ⟨x, e1, e2⟩ := s.lv k h1 h2; exact ⟨x, by rw [hb k h1]; exact e1, e2.sub u⟩⟩

def flatC (l : List Ch3) : List AV := l.flatMap Ch3.c
set_option maxRecDepth 20000 in
set_option maxHeartbeats 8000000 in
theorem night_lp (b : BayD) (v : BayV) (tv av : AV) (ibx ib n many : Nat) (bl : List AV) (H : Heap) (Z : Nat) (Q : Exit → Fr → Heap → Prop) (k : List It) (hB : bayB b = true) (hN : b.slots.length ≤ 3) (hd : b.days.length ≤ 7) (hn : n < b.days.length)
    (hmany : many = (b.days.length + 1) ^ b.slots.length) (hib : H[ib]? = some (some (.row bl))) (hbn : bl[n]? = some .nilS) (hbx : ibx ≠ ib)
    (I : LI w0 (H.set ib none) b v tv av ibx n many bl)
    (hK : ∀ (H' : Heap) (bl' : List AV), HSub (H.set ib none) (H'.set ib none) → H'[ib]? = some (some (.row bl')) → bl'.length = bl.length → (∀ j, j ≠ n → bl'[j]? = bl[j]?) → (∃ x, bl'[n]? = some x ∧ Sl w0 (H'.set ib none) 3 x ((levB b many (b.days.length - n)).map Ch3.c)) →
      un Try.prog w0 none 221 Z Q .normal k [(62, .bool false), (62, .bool false), (61, .int .i64 many), (60, .int .i64 many), (1, .ptr (.own ibx 0)), (4, tv), (5, av), (6, .int .i64 many), (8, .sl (.own ib 0) (b.days.length + 1) 1 true), (9, .int .i64 n), (10, .int .i64 many)] H') :
    lp Try.prog w0 none 221 Z Q L33_2 (.inBlk 4 :: k) [(1, .ptr (.own ibx 0)), (4, tv), (5, av), (6, .int .i64 many), (8, .sl (.own ib 0) (b.days.length + 1) 1 true), (9, .int .i64 n), (10, .int .i64 0)] H := by
  have bs := bayB_spec hB
  obtain ⟨prev, eprev⟩ : ∃ prev, prev = levB b many (b.days.length - (n + 1)) := ⟨_, rfl⟩
  have hlev : levB b many (b.days.length - n) = (List.range many).map fun x => pickB b prev n x := by
    rw [show b.days.length - n = (b.days.length - (n + 1)) + 1 by omega, levB, ← eprev, show b.days.length - (b.days.length - (n + 1) + 1) = n by omega]
  have hm8 : many ≤ 8 ^ 3 := by rw [hmany]; exact Nat.le_trans (Nat.pow_le_pow_left (by omega) _) (Nat.pow_le_pow_right (by omega) hN)
  refine lp_ind (S := Nat × Heap × AV × Nat × List AV) (F := fun s => [(1, .ptr (.own ibx 0)), (4, tv), (5, av), (6, .int .i64 many), (8, .sl (.own ib 0) (b.days.length + 1) 1 true), (9, .int .i64 n), (10, .int .i64 s.1)]) (H := fun s => s.2.1) (meas := fun s => many - s.1)
    (Inv := fun s => s.1 ≤ many ∧ HSub (H.set ib none) ((mk s.1 s.2.2.2.1 s.2.1).set ib none) ∧ s.2.1[ib]? = some (some (.row s.2.2.2.2)) ∧ s.2.2.2.2.length = bl.length ∧ (∀ j, j ≠ n → s.2.2.2.2[j]? = bl[j]?) ∧ s.2.2.2.2[n]? = some s.2.2.1 ∧
      Gr2 s.2.1 3 s.1 s.2.2.2.1 s.2.2.1 (flatC ((List.range s.1).map fun x => pickB b prev n x)) ∧ (s.1 ≠ 0 → s.2.2.2.1 ≠ ib))
    (0, H, .nilS, 0, bl) ⟨Nat.zero_le _, by simp only [mk, if_true]; exact HSub.refl, hib, rfl, fun _ _ => rfl, hbn, .inl ⟨rfl, rfl, rfl⟩, fun e => absurd rfl e⟩ rfl rfl ?_
  rintro ⟨x, G, ov, io, cl⟩ ⟨hx, hs, hgb, hcl, hco, hcn, hgr, hion⟩ ih
  simp only at hx hs hgb hcl hco hcn hgr hion ih
  have J : LI w0 ((mk x io G).set ib none) b v tv av ibx n many cl := I.sub hs hcl fun k hk => hco k (by omega)
  have hsG : HSub ((mk x io G).set ib none) G := HSub.msk.trans mk_sub
  have JG := J.sub hsG rfl fun _ _ => rfl
  have hbG := JG.bx
  refine lp_step hmix L33_2_g [1, 4, 5, 6, 8, 9, 10] L33_2.eq_1 ?_
  by_cases hxm : x < many
  · have m1 : (x : Int) < many := by omega
    simp only [go_sem, m1, hbG, ↓reduceIte, Nat.reduceEqDiff, Nat.reduceAdd, Nat.reduceSub, Nat.reduceMul, Nat.reduceLT, Nat.reduceLeDiff, Int.reduceLE, Int.reduceLT, Int.reduceAdd, Int.reduceSub, Int.reduceMul, Int.reduceEq, Int.reduceBEq, Int.reduceBNe, Int.reduceNeg, Int.reduceToNat, reduceCtorEq]
    refine rvC_post (ACall.vc (first := []) (args := [.agg (bayC b v), .int .i64 x]) (puts_c b v x JG.R (by omega))) ?_
    rintro pv G1 ⟨hs1, hp⟩
    simp only [go_sem, ↓reduceIte, Nat.reduceEqDiff, Nat.reduceAdd, Nat.reduceSub, Nat.reduceMul, Nat.reduceLT, Nat.reduceLeDiff, Int.reduceLE, Int.reduceLT, Int.reduceAdd, Int.reduceSub, Int.reduceMul, Int.reduceEq, Int.reduceBEq, Int.reduceBNe, Int.reduceNeg, Int.reduceToNat, reduceCtorEq]
    have hs1' : HSub G G1 := hs1
    have hset1 : (G1 ++ [some (Blk.row [AV.int IntKind.i64 (-1), AV.int IntKind.i64 0, AV.int IntKind.i64 0])]).set G1.length none = G1 ++ [none] := by
      rw [List.set_append_right _ _ (Nat.le_refl _)]; simp
    have hG1b : G1[ib]? = some (some (.row cl)) := hs1.2 _ _ hgb
    have hibG := get_lt hG1b
    obtain ⟨lv, lv1, lv2⟩ := JG.lv (n + 1) (by omega) (by omega)
    rw [← eprev] at lv2
    refine pick_lp b v tv av pv ibx ib G1.length n x many cl prev _ Z Q _ hB hN hn ?_ (by simp [Ch3.c]) (fun y hy => by rw [eprev, levB_len]; exact hy) hmany (fun z hz => by have := levB_ok hN _ z (eprev ▸ hz); simp only [okC] at this; omega) (fun H' hs' hc' => ?_)
    · rw [hset1]
      exact ⟨getElem?_app_left (hs1.2 _ _ hbG), (JG.R.sub hs1).app, (JG.T.sub hs1).app, (JG.A.sub hs1).app, getElem?_app_left hG1b, JG.len, ⟨lv, lv1, (lv2.sub hs1).app⟩, hp.app⟩
    · rw [hset1] at hs'
      obtain ⟨z, ez⟩ : ∃ z, z = pickB b prev n x := ⟨_, rfl⟩
      rw [← ez] at hc'
      have hGH : HSub G H' := (hs1.trans HSub.refl.app).trans (hs'.trans HSub.msk)
      have hbH' := hGH.2 _ _ hgb
      have hicH := get_lt hc'
      have hibH := get_lt hbH'
      have hgr' := hgr.sub hGH
      have ms0 : H'.set H'.length none = H' := List.set_eq_of_length_le (Nat.le_refl _)
      have ms1 : H'.set (H'.length + 1) none = H' := List.set_eq_of_length_le (by omega)
      have hclen : cl.length = b.days.length + 1 := JG.len
      have hov : cellsOf ov = some [ov] ∧ one ov = true := by
        rcases hgr with ⟨_, h2, _⟩ | ⟨_, h2, _⟩ <;> rw [h2] <;> exact ⟨rfl, rfl⟩
      have c1 : ∀ L, (H' ++ L)[G1.length]? = some (some (.row z.c)) := fun L => getElem?_app_left hc'
      have c1' := hc'
      have c2 : ∀ L, (H' ++ L)[ib]? = some (some (.row cl)) := fun L => getElem?_app_left hbH'
      have c2' := hbH'
      obtain ⟨K, eK⟩ : ∃ K, K = H' ++ [some (Blk.row [AV.int .i64 z.at_, AV.int .i64 z.nights, AV.int .i64 z.changes])] := ⟨_, rfl⟩
      have hHK : HSub H' K := by rw [eK]; exact HSub.refl.app
      have hKl : K.length = H'.length + 1 := by rw [eK]; simp
      obtain ⟨G2, eG, gG, sG, lG⟩ := (hgr'.sub hHK).more (w0 := w0) (b := 24) (k := H'.length) (x := z.c) (f := true) (by rw [eK]; simp [Ch3.c]) rfl rfl (by omega) (by omega)
      rw [hKl] at eG gG sG lG
      have hibK : (mk x io K)[ib]? = some (some (.row cl)) := by
        unfold mk; split
        · exact hHK.2 _ _ hbH'
        · rename_i h0; rw [List.getElem?_set_ne (hion h0)]; exact hHK.2 _ _ hbH'
      have hG2b : G2[ib]? = some (some (.row cl)) := (sG.trans mk_sub).2 _ _ hibK
      have hG2l := get_lt hG2b
      rw [eK] at eG
      refine dr_use hmix O33_2 [] D33_2.eq_1 O33_2_ok O33_2_ok2 List.nodup_nil (by simp) ?_
      simp only [go_sem, O33_2, ms0, ms1, c1, c1', c2, c2', hclen, hcn, hov.1, hov.2, Nat.mul_one, eG, hG2b, ↓reduceIte, Nat.reduceEqDiff, Nat.reduceAdd, Nat.reduceSub, Nat.reduceMul, Nat.reduceLT, Nat.reduceLeDiff, Int.reduceLE, Int.reduceLT, Int.reduceAdd, Int.reduceSub, Int.reduceMul, Int.reduceEq, Int.reduceBEq, Int.reduceBNe, Int.reduceNeg, Int.reduceToNat, reduceCtorEq]
      refine ⟨by omega, lG, by omega, by omega, (by unfold I64; omega), ?_⟩
      rw [splice_r (by omega)]
      have hne : H'.length + 1 ≠ ib := by omega
      have := ih (x + 1, G2.set ib (some (Blk.row (cl.set n (.sl (.own (H'.length + 1) 0) (x + 1) 3 false)))), .sl (.own (H'.length + 1) 0) (x + 1) 3 false, H'.length + 1, cl.set n (.sl (.own (H'.length + 1) 0) (x + 1) 3 false))
        ⟨by simp only; omega, ?_, by simp only; rw [List.getElem?_set_self hG2l], by simp [hcl], fun j hj => by simp only; rw [List.getElem?_set_ne (Ne.symm hj)]; exact hco j hj, by simp only; rw [List.getElem?_set_self (by omega)], ?_, fun _ => hne⟩ (by simp only; omega)
      · simpa using this
      · have key : ∀ r, (mk (x + 1) (H'.length + 1) (G2.set ib r)).set ib none = (mk (x + 1) (H'.length + 1) G2).set ib none := fun r => by
          simp only [mk]
          rw [if_neg (by omega), if_neg (by omega), List.set_comm r none hne.symm, List.set_set]
        simp only
        rw [key]
        exact (hs.trans ((mk_mono (n := x) (io := io) (hGH.trans hHK)).set ib)).trans (sG.set ib)
      · simp only
        rw [List.range_succ, List.map_append, List.map_cons, List.map_nil, flatC, List.flatMap_append, ← ez]
        simp only [List.flatMap_cons, List.flatMap_nil, List.append_nil]
        rcases gG with ⟨g1, _⟩ | ⟨g1, g2, g3, g4⟩
        · omega
        · exact .inr ⟨g1, rfl, by rw [List.getElem?_set_ne hne.symm]; exact g3, g4⟩
  · have hxE : x = many := by omega
    subst hxE
    have m1 : ¬ (x : Int) < x := by omega
    simp only [go_sem, m1, ↓reduceIte, Nat.reduceEqDiff, Nat.reduceAdd, Nat.reduceSub, Nat.reduceMul, Nat.reduceLT, Nat.reduceLeDiff, Int.reduceLE, Int.reduceLT, Int.reduceAdd, Int.reduceSub, Int.reduceMul, Int.reduceEq, Int.reduceBEq, Int.reduceBNe, Int.reduceNeg, Int.reduceToNat, reduceCtorEq]
    refine hK G cl ?_ hgb hcl hco ⟨ov, hcn, ?_⟩
    · exact hs.trans (mk_sub.set ib)
    · rw [hlev]
      have hx0 : x ≠ 0 := by
        rw [hmany]; exact Nat.ne_of_gt (Nat.pow_pos (by omega))
      rcases hgr with ⟨g1, _⟩ | ⟨g1, g2, g3, g4⟩
      · exact absurd g1 hx0
      · have hfl : ∀ l : List Ch3, flatC l = (l.map Ch3.c).flatten := fun l => by simp [flatC, List.flatMap_def]
        have : Gro [] (G.set ib none) 3 x ov ((((List.range x).map fun y => pickB b prev n y).map Ch3.c).flatten) := ⟨⟨by simp, fun i b e => by simp at e⟩, .inr ⟨io, by simp, g1, g2, by rw [List.getElem?_set_ne (hion g1).symm, ← hfl]; exact g3, by rw [← hfl]; exact g4⟩⟩
        exact this.sl (by simp [Ch3.c]) (by simp) (by omega)
end Go.Proofs.Ab

namespace Go.Proofs.Ab
open Go Go.Proofs
variable {w0 : World} {h : Heap}
attribute [local irreducible] ACall ACallV AYield DCall DCallV rvC rdC lp rg dr ex un rv rd'

theorem app_pre {N : Heap} {es b n io k : Nat} {ov : AV} {vs x : List AV} {f : Bool} (hov : n = 0 ∧ ov = .nilS ∧ vs = [] ∨ n ≠ 0 ∧ ov = .sl (.own (h.length + io) 0) n es false ∧ N[io]? = some (some (.row vs)) ∧ vs.length = n * es)
    (hk : N[k]? = some (some (.row x))) (hx : x.length = es) (ho : x.all one = true) (hb : b ≤ 1000000) (hn : n ≤ 1000000) :
    ∃ M, appA w0 (h ++ N) es b ov (.sl (.own (h.length + k) 0) 1 es f) = some (.sl (.own (h.length + N.length) 0) (n + 1) es false, h ++ M) ∧ M.length = N.length + 1 ∧ M[N.length]? = some (some (.row (vs ++ x))) ∧ ∀ (i : Nat) c, (n ≠ 0 → i ≠ io) → N[i]? = some (some c) → M[i]? = some (some c) := by
  rcases hov with ⟨h1, h2, h3⟩ | ⟨h1, h2, h3, h4⟩
  · subst h1; subst h2; subst h3
    exact ⟨N ++ [some (.row x)], app_nil (w0 := w0) (h := h) k f hk hx ho hb, by simp, by simp, fun i c _ e => getElem?_app_left e⟩
  · subst h2
    exact ⟨N.set io none ++ [some (.row (vs ++ x))], app_own (w0 := w0) (h := h) io k f h3 h4 hk hx ho hb hn, by simp, by simp, fun i c hi e => getElem?_app_left (by rw [List.getElem?_set_ne (hi h1).symm]; exact e)⟩

theorem puts_d (b : BayD) (v : BayV) (x : Nat) (hR : BayR w0 h b v) (hN : 1 ≤ b.slots.length) (hx : x < 1000000) : DCall Try.prog w0 82 [.agg (bayC b v), .int .i64 x] h (.sl (.own h.length 0) b.slots.length 1 false) (h ++ [some (.row (ints (putsD (b.days.length + 1) b.slots.length x)))]) := by
  refine DCall_ord hmix mf82_ok mf82_b mf82_g (Nat.le_of_ble_eq_true rfl) fun hb ha => ex_in ?_
  have o1 := hR.kinds.one.1
  have o2 := hR.slots.one.1
  have o3 := hR.days.one.1
  have o4 := hR.nights.one.1
  have o5 := hR.defs.one.1
  have l1 := hR.slots.use.1
  have l2 := hR.days.use.1
  have hl := hR.len
  simp only [List.length_map] at l1 l2
  obtain ⟨B, eB⟩ : ∃ B, B = b.days.length + 1 := ⟨_, rfl⟩
  rw [← eB]
  simp only [go_sem, mf82, o1, o2, o3, o4, o5, ↓reduceIte, Nat.reduceEqDiff, Nat.reduceAdd, Nat.reduceSub, Nat.reduceMul, Nat.reduceLT, Nat.reduceLeDiff, Int.reduceLE, Int.reduceLT, Int.reduceAdd, Int.reduceSub, Int.reduceMul, Int.reduceEq, Int.reduceBEq, Int.reduceBNe, Int.reduceNeg, Int.reduceToNat, reduceCtorEq]
  refine lp_ind (S := Nat × Heap × AV × Nat) (F := fun s => [(1, .int .i64 ((x / B ^ s.1 : Nat) : Int)), (2, .ptr (.own h.length 0)), (5, s.2.2.1), (6, .int .i64 s.1)]) (H := fun s => h ++ s.2.1) (meas := fun s => b.slots.length - s.1)
    (Inv := fun s => s.1 ≤ b.slots.length ∧ s.2.1[0]? = some (some (.row (bayC b v))) ∧ (s.1 = 0 ∧ s.2.2.1 = .nilS ∧ ints (putsD B s.1 x) = [] ∨ s.1 ≠ 0 ∧ s.2.2.1 = .sl (.own (h.length + s.2.2.2) 0) s.1 1 false ∧ s.2.1[s.2.2.2]? = some (some (.row (ints (putsD B s.1 x)))) ∧ (ints (putsD B s.1 x)).length = s.1 * 1) ∧ (s.1 ≠ 0 → s.2.2.2 ≠ 0))
    (0, [some (.row (bayC b v))], .nilS, 0) ⟨Nat.zero_le _, rfl, .inl ⟨rfl, rfl, rfl⟩, fun e => absurd rfl e⟩ (by simp) (by simp [bayC]) ?_
  rintro ⟨j, N, ov, io⟩ ⟨hj, hbx0, g, hio⟩ ih
  simp only at hj hbx0 g hio ih
  refine lp_step hmix L82_0_g [1, 2, 5, 6] L82_0.eq_1 ?_
  have hbx : (h ++ N)[h.length]? = some (some (.row (bayC b v))) := by rw [List.getElem?_append_right (Nat.le_refl _), Nat.sub_self]; exact hbx0
  have b1 : ∀ L, ((h ++ N) ++ L)[h.length]? = some (some (.row (bayC b v))) := fun L => getElem?_app_left hbx
  by_cases hjm : j < b.slots.length
  · have e1 : (j : Int) < b.slots.length := by omega
    have e2 : ¬ (b.days.length : Int) + 1 = 0 := by omega
    obtain ⟨xj, exj⟩ : ∃ xj, xj = x / B ^ j := ⟨_, rfl⟩
    obtain ⟨xn, exn⟩ : ∃ xn, xn = x / B ^ (j + 1) := ⟨_, rfl⟩
    obtain ⟨xm, exm⟩ : ∃ xm, xm = xj % B := ⟨_, rfl⟩
    have eBI : (b.days.length : Int) + 1 = ((B : Nat) : Int) := by omega
    have e3 : (xj : Int).tmod ((b.days.length : Int) + 1) = (xm : Int) := by
      rw [Int.tmod_eq_emod_of_nonneg (Int.natCast_nonneg _), eBI, exm]; rfl
    have e4 : (xj : Int).tdiv ((b.days.length : Int) + 1) = (xn : Int) := by
      rw [Int.tdiv_eq_ediv_of_nonneg (Int.natCast_nonneg _), eBI, exn, Nat.pow_succ, ← Nat.div_div_eq_div_mul, ← exj]; rfl
    have hq : xm ≤ xj := by rw [exm]; exact Nat.mod_le _ _
    have hq2 : xj ≤ x := by rw [exj]; exact Nat.div_le_self _ _
    have hq3 : xn ≤ x := by rw [exn]; exact Nat.div_le_self _ _
    rw [← exj]
    have ih := fun G ov io => ih (j + 1, G, ov, io)
    simp only [putsD_succ, ← exj, ← exn, ← exm] at ih
    clear exj exn exm
    have hNl := get_lt hbx0
    have g' : j = 0 ∧ ov = .nilS ∧ ints (putsD B j x) = [] ∨ j ≠ 0 ∧ ov = .sl (.own (h.length + io) 0) j 1 false ∧ (N ++ [some (Blk.row [AV.int .i64 ((xm : Int) - 1)])])[io]? = some (some (.row (ints (putsD B j x)))) ∧ (ints (putsD B j x)).length = j * 1 := by
      rcases g with h1 | ⟨h1, h2, h3, h4⟩
      · exact .inl h1
      · exact .inr ⟨h1, h2, getElem?_app_left h3, h4⟩
    obtain ⟨M, eM, lM, hM, oM⟩ := app_pre (w0 := w0) (h := h) (b := 8) (k := N.length) (x := [.int .i64 ((xm : Int) - 1)]) (f := true) g' (by simp) rfl rfl (by omega) (by omega)
    have hbM : M[0]? = some (some (.row (bayC b v))) := oM _ _ (fun h0 => (hio h0).symm) (getElem?_app_left hbx0)
    have hbM' : (h ++ M)[h.length]? = some (some (.row (bayC b v))) := by rw [List.getElem?_append_right (Nat.le_refl _), Nat.sub_self]; exact hbM
    rw [List.length_append] at eM hM
    simp only [List.length_singleton] at eM hM
    simp only [go_sem, hbx, b1, l1, l2, e1, e2, e3, eM, hbM', e4, ↓reduceIte, Nat.reduceEqDiff, Nat.reduceAdd, Nat.reduceSub, Nat.reduceMul, Nat.reduceLT, Nat.reduceLeDiff, Int.reduceLE, Int.reduceLT, Int.reduceAdd, Int.reduceSub, Int.reduceMul, Int.reduceEq, Int.reduceBEq, Int.reduceBNe, Int.reduceNeg, Int.reduceToNat, reduceCtorEq]
    refine ⟨(by unfold I64; omega), (by unfold I64; omega), (by unfold I64; omega), (by unfold I64; omega), (by unfold I64; omega), ?_⟩
    have := ih M (.sl (.own (h.length + (N.length + 1)) 0) (j + 1) 1 false) (N.length + 1) ⟨by omega, hbM, .inr ⟨by omega, rfl, by rw [← ints_app]; exact hM, by rw [ints_len, List.length_append, putsD_len]; simp⟩, fun _ => by omega⟩ (by omega)
    simpa using this
  · have : j = b.slots.length := by omega
    subst this
    have e1 : ¬ (b.slots.length : Int) < b.slots.length := by omega
    rcases g with ⟨h1, _⟩ | ⟨h1, h2, h3, h4⟩
    · omega
    subst h2
    simp only [go_sem, hbx, b1, l1, e1, ↓reduceIte, Nat.reduceEqDiff, Nat.reduceAdd, Nat.reduceSub, Nat.reduceMul, Nat.reduceLT, Nat.reduceLeDiff, Int.reduceLE, Int.reduceLT, Int.reduceAdd, Int.reduceSub, Int.reduceMul, Int.reduceEq, Int.reduceBEq, Int.reduceBNe, Int.reduceNeg, Int.reduceToNat, reduceCtorEq]
    refine ⟨[io], N, rfl, ⟨rfl, by simp, ?_, ?_, ?_, ?_⟩⟩
    · intro q c e
      cases q with
      | zero =>
        simp at e; subst e
        exact ⟨io, rfl, by rw [h3]; simp [Blk.ren]⟩
      | succ q => simp at e
    · exact fun c hc => by simp at hc; subst hc; exact row_bdd.2 (ints_bdd _ _)
    · simp [AV.bdd, Pl.bdd]
    · simp [AV.ren, Pl.ren, shf]
end Go.Proofs.Ab

namespace Go.Proofs.Ab
open Go Go.Proofs
variable {w0 : World} {h : Heap}
attribute [local irreducible] ACall ACallV AYield DCall DCallV rvC rdC lp rg dr ex un rv rd'

theorem dr_lay {P : Program} {r : Option Nat} {nt Z : Nat} {Q : Exit → Fr → Heap → Prop} {k : List It} {fr fr' : Fr} (hm : P.follows .mixedOrders = true) {l : List MIx} {bef : List (List Nat)} (T : List AV) (j0 : Nat) (L : Heap) (hj0 : j0 < l.length) (hbf : ∀ i, i ≤ j0 → bfr bef i j0 = false) (hbf2 : ∀ i, i < l.length → bfr bef j0 i = true → i < j0)
    (hal : ∀ i, j0 < i → i < l.length → bfr bef i j0 = false → (T.getD i .undef).al fun c => c < h.length ∨ h.length + L.length ≤ c)
    (hv : ∀ (i : Nat) x, l[i]? = some x → opV P w0 x (frT T l fr i) (if i ≤ j0 then h else if bfr bef i j0 = true then h ++ L else h ++ List.replicate L.length none) fun v h' => v = T.getD i .undef ∧ h' = if i < j0 then h else if i = j0 ∨ bfr bef i j0 = true then h ++ L else h ++ List.replicate L.length none)
    (hfr : frT T l fr l.length = fr') (hQ : un P w0 r nt Z Q .normal k fr' (h ++ L)) : dr P w0 r nt Z Q l bef k fr h := by
  subst hfr
  unfold dr
  exact EvM_lay2 (Q := unw P w0 r nt Z Q k) hm T j0 L hj0 hbf hbf2 hal hv (unw_of hQ)

def E33 : List MIx := [
   .op (some 208) none (.load (.t 1) (some 6)), 
   .op (some 209) none (.mov (.t 4)), 
   .op (some 210) none (.load (.t 1) (some 6)), 
   .op (some 211) none (.mov (.t 16)), 
   .call (some 212) none (.k (.fn (.func 82) [] [])) [(.t 210), (.t 211)], 
   .op (some 213) none (.mov (.t 19)), 
   .op (some 214) none (.mov (.t 5)), 
   .op (some 215) none (.addr (.t 20) 0), 
   .op (some 216) none (.load (.t 215) none), 
   .op (some 217) none (.idxs 1 (.t 214) (.t 216)), 
   .op (some 218) none (.load (.t 217) none), 
   .call (some 219) none (.k (.fn (.func 84) [] [])) [(.t 208), (.t 209), (.t 212), (.t 213), (.t 218)], 
   .op (some 16) none (.mov (.t 219))]
def F33 : List (List Nat) := [[], [], [], [], [2, 3], [], [], [], [7], [6, 8, 7], [9, 6, 8, 7], [0, 1, 4, 2, 3, 5, 10, 9, 6, 8, 7], [11, 0, 1, 4, 2, 3, 5, 10, 9, 6, 8, 7]]
def M33_5 : SC := 
(.seq 
(.seq (.reg [
   .op (some 183) none (.mov (.t 19)), 
   .op (some 184) none (.addr (.t 1) 2), 
   .op (some 185) none (.load (.t 184) none), 
   .op (some 186) none (.len (.t 185)), 
   .op (some 187) none (.bin .lss (.t 183) (.t 186))])
 (.cond (.t 187) .skip
 (.exit 10)))
 
(.seq (.blk 11 
(.seq (.reg [
   .op (some 190) none (.mov (.t 8)), 
   .op (some 191) none (.mov (.t 19)), 
   .op (some 192) none (.idxs 1 (.t 190) (.t 191)), 
   .op (some 193) none (.load (.t 192) none), 
   .op (some 194) none (.mov (.t 16)), 
   .op (some 195) none (.idxs 3 (.t 193) (.t 194)), 
   .op (some 196) none (.load (.t 195) (some 3)), 
   .op (some 20) none (.alloc [(.int .i64 0), (.int .i64 0), (.int .i64 0)]), 
   .op none none (.store (.t 20) (.t 196) 3)])
 
(.seq 
(.seq (.reg [
   .op (some 197) none (.addr (.t 20) 0), 
   .op (some 198) none (.load (.t 197) none), 
   .op (some 199) none (.bin .lss (.t 198) (.k (.int .i64 0)))])
 (.cond (.t 199) 
(.seq (.reg [
   .op (some 2) none (.mov (.k .nilS)), 
   .op (some 3) none (.mov (.k (.bool false)))])
 .ret)
 .skip))
 
(.seq (.reg [
   .op (some 200) none (.mov (.t 18)), 
   .op (some 201) none (.mov (.t 5)), 
   .op (some 202) none (.addr (.t 20) 0), 
   .op (some 203) none (.load (.t 202) none), 
   .op (some 204) none (.idxs 1 (.t 201) (.t 203)), 
   .op (some 205) none (.load (.t 204) none), 
   .op (some 206) none (.bslice 1 [.nilS] 1 [(0, 1, (.t 205))]), 
   .op (some 207) none (.app 1 [.nilS] 24 (.t 200) (.t 206)), 
   .op (some 18) none (.mov (.t 207))])
 (.draw [] E33 F33)))))
 (.reg [
   .op (some 188) none (.mov (.t 19)), 
   .op (some 189) none (.bin .add (.t 188) (.k (.int .i64 1))), 
   .op (some 19) none (.mov (.t 189))])))
def nf33 : SF := ⟨221, [(.t 2), (.t 3)],
 
(.seq (.reg [
   .op (some 1) none (.box (.t 0) 6), 
   .op (some 2) none (.mov (.k .nilS)), 
   .op (some 3) none (.mov (.k (.bool false)))])
 
(.seq (.reg [
   .op (some 21) none (.load (.t 1) (some 6)), 
   .call (some 22) none (.k (.fn (.func 80) [] [])) [(.t 21)], 
   .op (some 4) none (.mov (.t 22))])
 
(.seq (.reg [
   .op (some 23) none (.addr (.t 1) 1), 
   .op (some 24) none (.load (.t 23) none), 
   .op (some 25) none (.len (.t 24)), 
   .call (some 26) none (.k (.fn (.func 81) [] [])) [(.t 25)], 
   .op (some 5) none (.mov (.t 26))])
 
(.seq (.reg [
   .op (some 6) none (.mov (.k (.int .i64 1)))])
 
(.seq 
(.seq (.reg [
   .op (some 7) none (.mov (.k (.int .i64 0)))])
 (.blk 0 (.loop [1, 4, 5, 6, 7] L33_0)))
 
(.seq (.reg [
   .op (some 40) none (.addr (.t 1) 2), 
   .op (some 41) none (.load (.t 40) none), 
   .op (some 42) none (.len (.t 41)), 
   .op (some 43) none (.bin .add (.t 42) (.k (.int .i64 1))), 
   .op (some 44) none (.mksl 1 [.nilS] 24 (.t 43) (.t 43)), 
   .op (some 8) none (.mov (.t 44))])
 
(.seq (.draw [] D33_0 B33_0)
 
(.seq 
(.seq (.reg [
   .op (some 52) none (.addr (.t 1) 2), 
   .op (some 53) none (.load (.t 52) none), 
   .op (some 54) none (.len (.t 53)), 
   .op (some 55) none (.bin .sub (.t 54) (.k (.int .i64 1))), 
   .op (some 9) none (.mov (.t 55))])
 (.blk 2 (.loop [1, 4, 5, 6, 8, 9] L33_3)))
 
(.seq (.reg [
   .op (some 16) none (.mov (.k (.int .i64 0)))])
 
(.seq 
(.seq (.reg [
   .op (some 17) none (.mov (.k (.int .i64 0)))])
 (.blk 8 (.loop [1, 4, 5, 8, 16, 17] L33_4)))
 
(.seq (.reg [
   .op (some 18) none (.mov (.k .nilS))])
 
(.seq 
(.seq (.reg [
   .op (some 19) none (.mov (.k (.int .i64 0)))])
 (.blk 10 (.loop [1, 4, 5, 8, 16, 18, 19] M33_5)))
 
(.seq (.reg [
   .op (some 220) none (.mov (.t 18)), 
   .op (some 2) none (.mov (.t 220)), 
   .op (some 3) none (.mov (.k (.bool true)))])
 .ret)))))))))))))⟩
theorem nf33_ok : cfun Try.prog 33 = some nf33.er := mf33_ok
theorem nf33_g : nf33.body.good = true := by kernel_rfl
theorem M33_5_g : M33_5.good = true := by kernel_rfl

def manyB (b : BayD) : Nat := (b.days.length + 1) ^ b.slots.length
def extB (b : BayD) : Nat → Nat → Option (List (List Int))
  | 0, _ => some []
  | k + 1, now =>
    let c := (levB b (manyB b) (k + 1)).getD now ⟨-1, 0, 0⟩
    if c.at_ < 0 then none else (extB b k (afterR b (putB b now) (b.days.length - (k + 1)) ((allC b).getD c.at_.toNat [])).toNat).map ((allC b).getD c.at_.toNat [] :: ·)
def bestB (b : BayD) : Option (List (List Int)) := if ((List.range b.slots.length).any fun s => decide (lastsD Span.high b s (-1) < 0)) = true then none else extB b b.days.length 0
def BestK (w0 : World) (h : Heap) (b : BayD) (y : AV) (h' : Heap) : Prop :=
  HSub h h' ∧ match bestB b with
    | none => y = .tup [.nilS, .bool false]
    | some t => ∃ x, y = .tup [x, .bool true] ∧ LL w0 h' x t

theorem pickB_spec {b : BayD} {prev : List Ch3} {n x : Nat} (h : 0 ≤ (pickB b prev n x).at_) : ∃ i, i < (allC b).length ∧ okB b prev n (putB b x) i = true ∧ pickB b prev n x = candB b prev n (putB b x) i := by
  have : ∀ (l : List Nat) (cur : Ch3), l.foldl (stepB b prev n (putB b x)) cur = cur ∨ ∃ i ∈ l, okB b prev n (putB b x) i = true ∧ l.foldl (stepB b prev n (putB b x)) cur = candB b prev n (putB b x) i := by
    intro l
    induction l with
    | nil => intro cur; exact .inl rfl
    | cons i l ih =>
      intro cur
      rw [List.foldl_cons]
      rcases ih (stepB b prev n (putB b x) cur i) with e | ⟨j, hj, h1, h2⟩
      · rw [e]
        unfold stepB
        split
        · rename_i h1
          split
          · exact .inr ⟨i, List.mem_cons_self, h1, rfl⟩
          · exact .inl rfl
        · exact .inl rfl
      · exact .inr ⟨j, List.mem_cons_of_mem _ hj, h1, h2⟩
  rcases this (List.range (allC b).length) ⟨-1, 0, 0⟩ with e | ⟨i, hi, h1, h2⟩
  · rw [pickB, e] at h; simp at h
  · exact ⟨i, List.mem_range.1 hi, h1, h2⟩

structure LJ (w0 : World) (M : Heap) (b : BayD) (v : BayV) (tv av : AV) (ibx lo : Nat) (bl : List AV) : Prop where
  bx : M[ibx]? = some (some (.row (bayC b v)))
  R : BayR w0 M b v
  T : LL w0 M tv (tableD b)
  A : LL w0 M av (allC b)
  len : bl.length = b.days.length + 1
  lv : ∀ k, lo ≤ k → k ≤ b.days.length → ∃ x, bl[k]? = some x ∧ Sl w0 M 3 x ((levB b (manyB b) (b.days.length - k)).map Ch3.c)

set_option maxRecDepth 200000 in
set_option maxHeartbeats 8000000 in
theorem ext_lp (b : BayD) (v : BayV) (tv av : AV) (ib : Nat) (bl : List AV) (G : Heap) (hB : bayB b = true) (hN : b.slots.length ≤ 3) (hd : b.days.length ≤ 7) (hsG' : HSub h G) (hgb : G[ib]? = some (some (.row bl))) (JG : LJ w0 G b v tv av h.length 0 bl) (hbest : bestB b = extB b b.days.length 0) :
    lp Try.prog w0 none 221 h.length (resK w0 [RV.t 2, RV.t 3] (BestK w0 h b)) M33_5
      [It.inBlk 10, It.code ((SC.reg [MIx.op (some 220) none (MOp.mov (Opd.t 18)), MIx.op (some 2) none (MOp.mov (Opd.t 220)), MIx.op (some 3) none (MOp.mov (Opd.k (AV.bool true)))]).seq SC.ret)]
      [(1, .ptr (.own h.length 0)), (4, tv), (5, av), (8, .sl (.own ib 0) (b.days.length + 1) 1 true), (16, .int .i64 0), (18, .nilS), (19, .int .i64 0)] G := by
  have bs := bayB_spec hB
  have hmk0 : ∀ H : Heap, mk 0 0 H = H := fun H => by simp [mk]
  refine lp_ind (S := Nat × Heap × Nat × AV × Nat × List AV × List (List Int)) (F := fun s => [(1, .ptr (.own h.length 0)), (4, tv), (5, av), (8, .sl (.own ib 0) (b.days.length + 1) 1 true), (16, .int .i64 s.2.2.1), (18, s.2.2.2.1), (19, .int .i64 s.1)]) (H := fun s => s.2.1) (meas := fun s => b.days.length - s.1)
    (Inv := fun s => s.1 ≤ b.days.length ∧ HSub h (mk s.1 s.2.2.2.2.1 s.2.1) ∧ (mk s.1 s.2.2.2.2.1 s.2.1)[ib]? = some (some (.row bl)) ∧ LJ w0 (mk s.1 s.2.2.2.2.1 s.2.1) b v tv av h.length 0 bl ∧ Gr2 s.2.1 1 s.1 s.2.2.2.2.1 s.2.2.2.1 s.2.2.2.2.2.1 ∧
      s.2.2.2.2.2.1.length = s.1 ∧ s.2.2.2.2.2.2.length = s.1 ∧ (∀ (j : Nat) x l, s.2.2.2.2.2.1[j]? = some x → s.2.2.2.2.2.2[j]? = some l → SlI w0 (mk s.1 s.2.2.2.2.1 s.2.1) x l) ∧ s.2.2.1 < manyB b ∧ bestB b = (extB b (b.days.length - s.1) s.2.2.1).map (s.2.2.2.2.2.2 ++ ·))
    (0, G, 0, .nilS, 0, [], []) ⟨Nat.zero_le _, by simp only [hmk0]; exact hsG', by simp only [hmk0]; exact hgb, by simp only [hmk0]; exact JG, .inl ⟨rfl, rfl, rfl⟩, rfl, rfl, fun j x l e => by simp at e, by rw [manyB]; exact Nat.pow_pos (by omega), by simp only [Nat.sub_zero, List.nil_append]; rw [hbest]; cases extB b b.days.length 0 <;> rfl⟩ rfl rfl ?_
  clear JG hsG' hgb hbest
  rintro ⟨n, K, now, ov, io, vs, t⟩ ⟨hn, hsK, hKb, J, g, hvl, htl, hvs, hnow, hext⟩ ih
  simp only at hn hsK hKb J g hvl htl hvs hnow hext ih
  have JK : LJ w0 K b v tv av h.length 0 bl := ⟨mk_sub.2 _ _ J.bx, J.R.sub mk_sub, J.T.sub mk_sub, J.A.sub mk_sub, J.len, fun k h1 h2 => by obtain ⟨x, x1, x2⟩ := J.lv k h1 h2; exact ⟨x, x1, x2.sub mk_sub⟩⟩
  have hKb' := mk_sub.2 _ _ hKb
  have hbK := JK.bx
  have l2K := (JK.R.days.use).1
  simp only [List.length_map] at l2K
  refine lp_step hmix M33_5_g [1, 4, 5, 8, 16, 18, 19] M33_5.eq_1 ?_
  by_cases hnn : n < b.days.length
  · have m1 : (n : Int) < b.days.length := by omega
    obtain ⟨k, ek⟩ : ∃ k, b.days.length - n = k + 1 := ⟨b.days.length - n - 1, by omega⟩
    obtain ⟨lv, x1, x2⟩ := JK.lv n (by omega) (by omega)
    obtain ⟨lvl, q, lx, lr, _⟩ := x2.use
    simp only [List.length_map] at lx
    have hnl : now < (levB b (manyB b) (b.days.length - n)).length := by rw [levB_len]; exact hnow
    have i1 := lx now hnl
    obtain ⟨c, ec⟩ : ∃ c, c = (levB b (manyB b) (b.days.length - n))[now] := ⟨_, rfl⟩
    have r0 : rdn w0 K (q.add (now * 3)) 3 = some c.c := lr now _ (by simp [hnl, ← ec])
    have hclen := JK.len
    have gc : (levB b (manyB b) (k + 1)).getD now ⟨-1, 0, 0⟩ = c := by rw [← ek, getD_at hnl, ec]
    rw [ek, extB, gc] at hext
    have hcp : c = pickB b (levB b (manyB b) k) n now := by
      rw [ec]; simp only [ek, levB, List.getElem_map, List.getElem_range]; rw [show b.days.length - (k + 1) = n by omega]
    rw [show b.days.length - (k + 1) = n by omega] at hext
    simp only [go_sem, hbK, l2K, m1, hKb', hclen, x1, i1, r0, Nat.mul_one, ↓reduceIte, Nat.reduceEqDiff, Nat.reduceAdd, Nat.reduceSub, Nat.reduceMul, Nat.reduceLT, Nat.reduceLeDiff, Int.reduceLE, Int.reduceLT, Int.reduceAdd, Int.reduceSub, Int.reduceMul, Int.reduceEq, Int.reduceBEq, Int.reduceBNe, Int.reduceNeg, Int.reduceToNat, reduceCtorEq]
    refine ⟨by omega, fun e1 => ?_, fun e1 => ?_⟩
    · rw [if_pos e1] at hext
      simp only [BestK, hext, Option.map_none]
      exact ⟨(hsK.trans mk_sub).app, trivial⟩
    rw [if_neg e1] at hext
    obtain ⟨i, hi, hok, hcand⟩ := pickB_spec (b := b) (prev := levB b (manyB b) k) (n := n) (x := now) (by rw [← hcp]; omega)
    have hat : c.at_ = (i : Int) := by rw [hcp, hcand]; rfl
    obtain ⟨cl, ecl⟩ : ∃ cl, cl = (allC b)[i] := ⟨_, rfl⟩
    have gcl : (allC b).getD i [] = cl := by rw [getD_at hi, ecl]
    have hclm := allC_ok (b := b) (c := cl) (by rw [ecl]; exact List.getElem_mem hi)
    rw [hat, Int.toNat_natCast, gcl] at hext
    simp only [okB, Bool.and_eq_true, decide_eq_true_eq, gcl] at hok
    obtain ⟨hpast, hafter, _⟩ := hok
    have hp1 : ∀ z ∈ putB b now, -1 ≤ z ∧ z < (n : Int) := fun z hz => by
      rw [List.all_eq_true] at hpast
      have h1 := hpast z hz
      simp only [decide_eq_true_eq] at h1
      simp only [putB, putsD, List.mem_map] at hz
      obtain ⟨s, _, rfl⟩ := hz
      omega
    have hal2 := after_lt (c := cl) hnn (by rw [putB, putsD_len]) hp1
    obtain ⟨y, ey⟩ : ∃ y : Nat, afterR b (putB b now) n cl = y := ⟨(afterR b (putB b now) n cl).toNat, by omega⟩
    rw [ey] at hal2 hext
    obtain ⟨pp, xx, t1, t2m, t3m⟩ := J.A.list hi
    rw [← ecl] at t3m
    have t20 := t2m []
    rw [List.append_nil] at t20
    have t2 : ∀ L, rd w0 (K ++ L) pp = some xx := fun L => (HSub.trans mk_sub HSub.refl.app).rd t20
    have t3 : SlI w0 K xx cl := Sl.sub t3m mk_sub
    have xo := t3.one
    obtain ⟨K2, eK2⟩ : ∃ K2, K2 = K ++ [some (Blk.row [AV.int .i64 c.at_, AV.int .i64 c.nights, AV.int .i64 c.changes]), some (Blk.row [xx])] := ⟨_, rfl⟩
    have hKK2 : HSub K K2 := by rw [eK2]; exact HSub.refl.app
    have hK2l : K2.length = K.length + 2 := by rw [eK2]; simp
    obtain ⟨G2, eG, gG, sG, lG⟩ := (g.sub hKK2).more (w0 := w0) (b := 24) (k := K.length + 1) (x := [xx]) (f := true) (by rw [eK2, List.getElem?_append_right (by omega)]; simp) rfl (by simp [xo.1]) (by omega) (by omega)
    rw [hK2l] at eG gG sG lG
    rw [eK2] at eG
    have i5 : (if (0 : Int) ≤ c.at_ then some c.at_.toNat else none) = some i := by rw [hat, if_pos (by omega)]; rfl
    simp only [go_sem, i5, t1, t2, xo.1, xo.2, eG, ↓reduceIte, Nat.reduceEqDiff, Nat.reduceAdd, Nat.reduceSub, Nat.reduceMul, Nat.reduceLT, Nat.reduceLeDiff, Int.reduceLE, Int.reduceLT, Int.reduceAdd, Int.reduceSub, Int.reduceMul, Int.reduceEq, Int.reduceBEq, Int.reduceBNe, Int.reduceNeg, Int.reduceToNat, reduceCtorEq]
    have hio : n ≠ 0 → io < K.length := fun h0 => by
      rcases g with h1 | ⟨_, _, h3, _⟩
      · exact absurd h1.1 h0
      · exact get_lt h3
    have sM : HSub (mk n io K) (mk (n + 1) (K.length + 2) G2) := (mk_mono hKK2).trans sG
    have JM : LJ w0 (mk (n + 1) (K.length + 2) G2) b v tv av h.length 0 bl := ⟨sM.2 _ _ J.bx, J.R.sub sM, J.T.sub sM, J.A.sub sM, J.len, fun k h1 h2 => by obtain ⟨x, x1, x2⟩ := J.lv k h1 h2; exact ⟨x, x1, x2.sub sM⟩⟩
    have sM2 : HSub (mk (n + 1) (K.length + 2) G2) G2 := mk_sub
    have g20 : G2[K.length]? = some (some (.row c.c)) := by
      refine (sG.trans sM2).2 _ _ ?_
      unfold mk; split
      · rw [eK2, List.getElem?_append_right (Nat.le_refl _)]; simp [Ch3.c]
      · rename_i h0
        have := hio h0
        rw [List.getElem?_set_ne (by omega), eK2, List.getElem?_append_right (Nat.le_refl _)]; simp [Ch3.c]
    have hbG2 := sM2.2 _ _ JM.bx
    have hRG := JM.R.sub sM2
    have hTG := JM.T.sub sM2
    have hAG := JM.A.sub sM2
    obtain ⟨pp', xx', t1', t2', t3'⟩ := hAG.list hi
    have t2n := t2' []
    rw [List.append_nil] at t2n
    rw [← ecl] at t3'
    have hput := puts_d b v now hRG (by omega) (by rw [manyB] at hnow; have : (b.days.length + 1) ^ b.slots.length ≤ 8 ^ 3 := Nat.le_trans (Nat.pow_le_pow_left (by omega) _) (Nat.pow_le_pow_right (by omega) hN); omega)
    have hpSl : SlI w0 (G2 ++ [some (Blk.row (ints (putB b now)))]) (.sl (.own G2.length 0) b.slots.length 1 false) (putB b now) := by
      have := Sl_lit (w0 := w0) (h := G2) ((putB b now).map fun z => [AV.int .i64 z]) (es := 1) false (L := [some (Blk.row (ints (putB b now)))]) 0 (by rw [ints_flat]; rfl) (by simp)
      rw [List.length_map, show (putB b now).length = b.slots.length by rw [putB, putsD_len]] at this
      exact this
    have haf := after_c b v tv _ xx' (putB b now) n cl hRG.app hB hTG.app hpSl (by rw [putB, putsD_len]) hnn hp1 t3'.app hclm.1 (by omega)
    rw [ey] at haf
    refine dr_keep [1, 4, 5, 8, 16, 18, 19, 20] ?_
    simp only [go_sem, ↓reduceIte, Nat.reduceEqDiff, Nat.reduceAdd, Nat.reduceSub, Nat.reduceMul, Nat.reduceLT, Nat.reduceLeDiff, Int.reduceLE, Int.reduceLT, Int.reduceAdd, Int.reduceSub, Int.reduceMul, Int.reduceEq, Int.reduceBEq, Int.reduceBNe, Int.reduceNeg, Int.reduceToNat, reduceCtorEq]
    have hgo : un Try.prog w0 none 221 h.length (resK w0 [RV.t 2, RV.t 3] (BestK w0 h b)) .normal [It.inBlk 11, It.code (SC.reg [MIx.op (some 188) none (MOp.mov (Opd.t 19)), MIx.op (some 189) none (MOp.bin BinOp.add (Opd.t 188) (Opd.k (AV.int IntKind.i64 1))), MIx.op (some 19) none (MOp.mov (Opd.t 189))]), It.inLoop [1, 4, 5, 8, 16, 18, 19] M33_5, It.inBlk 10, It.code ((SC.reg [MIx.op (some 220) none (MOp.mov (Opd.t 18)), MIx.op (some 2) none (MOp.mov (Opd.t 220)), MIx.op (some 3) none (MOp.mov (Opd.k (AV.bool true)))]).seq SC.ret)]
        [(16, .int .i64 y), (219, .int .i64 y), (218, xx'), (217, .ptr pp'), (216, .int .i64 c.at_), (215, .ptr (.own K.length 0)), (214, av), (213, .int .i64 n), (212, .sl (.own G2.length 0) b.slots.length 1 false), (211, .int .i64 now), (210, .agg (bayC b v)), (209, tv), (208, .agg (bayC b v)),
          (1, .ptr (.own h.length 0)), (4, tv), (5, av), (8, .sl (.own ib 0) (b.days.length + 1) 1 true), (16, .int .i64 now), (18, .sl (.own (K.length + 2) 0) (n + 1) 1 false), (19, .int .i64 n), (20, .ptr (.own K.length 0))] (G2 ++ [some (Blk.row (ints (putB b now)))]) := by
      simp only [go_sem, ↓reduceIte, Nat.reduceEqDiff, Nat.reduceAdd, Nat.reduceSub, Nat.reduceMul, Nat.reduceLT, Nat.reduceLeDiff, Int.reduceLE, Int.reduceLT, Int.reduceAdd, Int.reduceSub, Int.reduceMul, Int.reduceEq, Int.reduceBEq, Int.reduceBNe, Int.reduceNeg, Int.reduceToNat, reduceCtorEq]
      refine ⟨(by unfold I64; omega), ?_⟩
      have sM' : HSub (mk n io K) (mk (n + 1) (K.length + 2) (G2 ++ [some (Blk.row (ints (putB b now)))])) := sM.trans (mk_mono HSub.refl.app)
      have := ih (n + 1, G2 ++ [some (Blk.row (ints (putB b now)))], y, .sl (.own (K.length + 2) 0) (n + 1) 1 false, K.length + 2, vs ++ [xx], t ++ [cl])
        ⟨by simp only; omega, hsK.trans sM', sM'.2 _ _ hKb, ⟨sM'.2 _ _ J.bx, J.R.sub sM', J.T.sub sM', J.A.sub sM', J.len, fun k h1 h2 => by obtain ⟨x, x1, x2⟩ := J.lv k h1 h2; exact ⟨x, x1, x2.sub sM'⟩⟩, gG.sub HSub.refl.app, by simp [hvl], by simp [htl], fun j x l e e' => ?_, by simp only [manyB]; omega, ?_⟩ (by simp only; omega)
      · simpa using this
      · simp only at e e' ⊢
        rcases Nat.lt_or_ge j n with h1 | h1
        · rw [List.getElem?_append_left (by omega)] at e e'
          exact (hvs j x l e e').sub sM'
        · rw [List.getElem?_append_right (by omega)] at e e'
          have hj : j = n := by
            rcases Nat.eq_or_lt_of_le h1 with h2 | h2
            · exact h2.symm
            · rw [List.getElem?_eq_none (by simp; omega)] at e; cases e
          subst hj
          rw [hvl, Nat.sub_self] at e
          rw [htl, Nat.sub_self] at e'
          simp at e e'; subst e; subst e'
          exact Sl.sub t3m sM'
      · simp only
        rw [hext, show b.days.length - (n + 1) = k by omega, Int.toNat_natCast]
        cases extB b k y <;> simp
    refine dr_lay hmix [.agg (bayC b v), tv, .agg (bayC b v), .int .i64 now, .sl (.own G2.length 0) b.slots.length 1 false, .int .i64 n, av, .ptr (.own K.length 0), .int .i64 c.at_, .ptr pp', xx', .int .i64 y, .int .i64 y] 4 [some (Blk.row (ints (putB b now)))] (Nat.lt_of_sub_ne_zero (by simp [E33])) (fun i h1 => ?_) (fun i h1 h2 => ?_) (fun i h1 h2 h3 => ?_) (fun i x hx => ?_) (by simp only [E33, List.length_cons, List.length_nil, frT, dstAt, List.getElem?_cons_zero, List.getElem?_cons_succ, Option.bind_some, MIx.dst, List.getD_cons_zero, List.getD_cons_succ, Fr.put]) hgo
    · rcases i with _ | _ | _ | _ | _ | i
      all_goals first | omega | rfl
    · simp only [E33, List.length_cons, List.length_nil] at h1
      rcases i with _ | _ | _ | _ | _ | _ | _ | _ | _ | _ | _ | _ | _ | i
      all_goals first | omega | (exact absurd h2 (by decide))
    · simp only [E33, List.length_cons, List.length_nil] at h2
      have hpp : (AV.ptr pp').al fun c => c < G2.length ∨ G2.length + [some (Blk.row (ints (putB b now)))].length ≤ c := by
        cases pp' with
        | old a => trivial
        | own i0 o0 =>
          refine .inl ?_
          rcases Nat.lt_or_ge i0 G2.length with a | a
          · exact a
          · simp [rd, List.getElem?_eq_none a] at t2n
      rcases i with _ | _ | _ | _ | _ | _ | _ | _ | _ | _ | _ | _ | _ | i
      all_goals first
        | omega
        | (exact absurd h3 (by decide))
        | trivial
        | exact AV.bdd_al (fun c hc => .inl hc) _ (hAG.bdd (Nat.le_refl _))
        | exact .inl (get_lt g20)
        | exact hpp
        | exact AV.bdd_al (fun c hc => .inl hc) _ (Sl.bdd t3' (Nat.le_refl _))
    · rcases i with _ | _ | _ | _ | _ | _ | _ | _ | _ | _ | _ | _ | _ | i
      all_goals
        simp only [E33, List.getElem?_cons_zero, List.getElem?_cons_succ, Option.some.injEq, List.getElem?_nil, reduceCtorEq] at hx
      all_goals subst hx
      · refine ⟨.agg (bayC b v), G2, ?_, rfl, rfl⟩
        show aop w0 (MOp.load (Opd.t 1) (some 6)) _ G2 = _
        simp only [frT]
        simp only [go_sem, hbG2, ↓reduceIte, Nat.reduceEqDiff, Nat.reduceAdd, Nat.reduceSub, Nat.reduceMul, Nat.reduceLT, Nat.reduceLeDiff, Int.reduceLE, Int.reduceLT, Int.reduceAdd, Int.reduceSub, Int.reduceMul, Int.reduceEq, Int.reduceBEq, Int.reduceBNe, Int.reduceNeg, Int.reduceToNat, reduceCtorEq]
      · exact ⟨_, _, rfl, rfl, rfl⟩
      · refine ⟨.agg (bayC b v), G2, ?_, rfl, rfl⟩
        show aop w0 (MOp.load (Opd.t 1) (some 6)) _ G2 = _
        simp only [frT, dstAt, E33, List.getElem?_cons_zero, List.getElem?_cons_succ, Option.bind_some, MIx.dst, List.getD_cons_zero, List.getD_cons_succ]
        simp only [go_sem, hbG2, ↓reduceIte, Nat.reduceEqDiff, Nat.reduceAdd, Nat.reduceSub, Nat.reduceMul, Nat.reduceLT, Nat.reduceLeDiff, Int.reduceLE, Int.reduceLT, Int.reduceAdd, Int.reduceSub, Int.reduceMul, Int.reduceEq, Int.reduceBEq, Int.reduceBNe, Int.reduceNeg, Int.reduceToNat, reduceCtorEq]
      · exact ⟨_, _, rfl, rfl, rfl⟩
      · exact opV_call hput.v
      · exact ⟨_, _, rfl, rfl, rfl⟩
      · exact ⟨_, _, rfl, rfl, rfl⟩
      · exact ⟨_, _, rfl, rfl, rfl⟩
      · refine ⟨.int .i64 c.at_, G2 ++ [none], ?_, rfl, rfl⟩
        show aop w0 (MOp.load (Opd.t 215) none) _ (G2 ++ [none]) = _
        simp only [frT, dstAt, E33, List.getElem?_cons_zero, List.getElem?_cons_succ, Option.bind_some, MIx.dst, List.getD_cons_zero, List.getD_cons_succ]
        have g21 : (G2 ++ [none])[K.length]? = some (some (.row c.c)) := getElem?_app_left g20
        simp only [go_sem, g21, ↓reduceIte, Nat.reduceEqDiff, Nat.reduceAdd, Nat.reduceSub, Nat.reduceMul, Nat.reduceLT, Nat.reduceLeDiff, Int.reduceLE, Int.reduceLT, Int.reduceAdd, Int.reduceSub, Int.reduceMul, Int.reduceEq, Int.reduceBEq, Int.reduceBNe, Int.reduceNeg, Int.reduceToNat, reduceCtorEq]
      · refine ⟨.ptr pp', G2 ++ [none], ?_, rfl, rfl⟩
        show aop w0 (MOp.idxs 1 (Opd.t 214) (Opd.t 216)) _ (G2 ++ [none]) = _
        simp only [frT, dstAt, E33, List.getElem?_cons_zero, List.getElem?_cons_succ, Option.bind_some, MIx.dst, List.getD_cons_zero, List.getD_cons_succ]
        simp only [go_sem, i5, t1', ↓reduceIte, Nat.reduceEqDiff, Nat.reduceAdd, Nat.reduceSub, Nat.reduceMul, Nat.reduceLT, Nat.reduceLeDiff, Int.reduceLE, Int.reduceLT, Int.reduceAdd, Int.reduceSub, Int.reduceMul, Int.reduceEq, Int.reduceBEq, Int.reduceBNe, Int.reduceNeg, Int.reduceToNat, reduceCtorEq]
      · refine ⟨xx', G2 ++ [none], ?_, rfl, rfl⟩
        show aop w0 (MOp.load (Opd.t 217) none) _ (G2 ++ [none]) = _
        simp only [frT, dstAt, E33, List.getElem?_cons_zero, List.getElem?_cons_succ, Option.bind_some, MIx.dst, List.getD_cons_zero, List.getD_cons_succ]
        simp only [go_sem, t2', ↓reduceIte, Nat.reduceEqDiff, Nat.reduceAdd, Nat.reduceSub, Nat.reduceMul, Nat.reduceLT, Nat.reduceLeDiff, Int.reduceLE, Int.reduceLT, Int.reduceAdd, Int.reduceSub, Int.reduceMul, Int.reduceEq, Int.reduceBEq, Int.reduceBNe, Int.reduceNeg, Int.reduceToNat, reduceCtorEq]
      · exact opV_call haf.v
      · exact ⟨_, _, rfl, rfl, rfl⟩
  · have hnE : n = b.days.length := by omega
    subst hnE
    have m1 : ¬ (b.days.length : Int) < b.days.length := by omega
    rw [Nat.sub_self, extB, Option.map_some, List.append_nil] at hext
    simp only [go_sem, hbK, l2K, m1, ↓reduceIte, Nat.reduceEqDiff, Nat.reduceAdd, Nat.reduceSub, Nat.reduceMul, Nat.reduceLT, Nat.reduceLeDiff, Int.reduceLE, Int.reduceLT, Int.reduceAdd, Int.reduceSub, Int.reduceMul, Int.reduceEq, Int.reduceBEq, Int.reduceBNe, Int.reduceNeg, Int.reduceToNat, reduceCtorEq]
    simp only [BestK, hext]
    exact ⟨hsK.trans mk_sub, ov, rfl, LL_of g mk_sub (by rw [hvl, htl]) hvs⟩

set_option maxRecDepth 200000 in
set_option maxHeartbeats 8000000 in
theorem Best_c (b : BayD) (v : BayV) (hR : BayR w0 h b v) (hB : bayB b = true) (hN : b.slots.length ≤ 3) (hd : b.days.length ≤ 7) : ACall Try.prog w0 33 [.agg (bayC b v)] h (BestK w0 h b) := by
  refine ACall_sx hmix nf33_ok mf33_b nf33_g (Nat.le_of_ble_eq_true rfl) fun hb ha => ex_in ?_
  have bs := bayB_spec hB
  have o1 := hR.kinds.one.1
  have o2 := hR.slots.one.1
  have o3 := hR.days.one.1
  have o4 := hR.nights.one.1
  have o5 := hR.defs.one.1
  have l1 := hR.slots.use.1
  have l2 := hR.days.use.1
  simp only [List.length_map] at l1 l2
  simp only [go_sem, nf33, o1, o2, o3, o4, o5, ↓reduceIte, Nat.reduceEqDiff, Nat.reduceAdd, Nat.reduceSub, Nat.reduceMul, Nat.reduceLT, Nat.reduceLeDiff, Int.reduceLE, Int.reduceLT, Int.reduceAdd, Int.reduceSub, Int.reduceMul, Int.reduceEq, Int.reduceBEq, Int.reduceBNe, Int.reduceNeg, Int.reduceToNat, reduceCtorEq]
  refine rvC_post (ACall.vc (first := []) (args := [.agg (bayC b v)]) (table_c b v hR.app hB)) ?_
  rintro tv H1 ⟨hs1, hT⟩
  have hbx1 : H1[h.length]? = some (some (.row (bayC b v))) := hs1.2 _ _ (by simp [bayC])
  simp only [go_sem, hbx1, l1, ↓reduceIte, Nat.reduceEqDiff, Nat.reduceAdd, Nat.reduceSub, Nat.reduceMul, Nat.reduceLT, Nat.reduceLeDiff, Int.reduceLE, Int.reduceLT, Int.reduceAdd, Int.reduceSub, Int.reduceMul, Int.reduceEq, Int.reduceBEq, Int.reduceBNe, Int.reduceNeg, Int.reduceToNat, reduceCtorEq]
  refine rvC_post (ACall.vc (first := []) (args := [.int .i64 b.slots.length]) (choices_c b.slots.length (by omega))) ?_
  rintro av H2 ⟨hs2, hA⟩
  have hbx2 := hs2.2 _ _ hbx1
  have hT2 := hT.sub hs2
  have hh2 : HSub h H2 := (HSub.trans HSub.refl.app hs1).trans hs2
  have hR2 := hR.sub hh2
  simp only [go_sem, ↓reduceIte, Nat.reduceEqDiff, Nat.reduceAdd, Nat.reduceSub, Nat.reduceMul, Nat.reduceLT, Nat.reduceLeDiff, Int.reduceLE, Int.reduceLT, Int.reduceAdd, Int.reduceSub, Int.reduceMul, Int.reduceEq, Int.reduceBEq, Int.reduceBNe, Int.reduceNeg, Int.reduceToNat, reduceCtorEq]
  refine lp_for (S := Unit) (fun j _ => [(1, .ptr (.own h.length 0)), (4, tv), (5, av), (6, .int .i64 (((b.days.length + 1) ^ j : Nat) : Int)), (7, .int .i64 j)]) (fun _ _ => H2) (fun _ _ => True) b.slots.length () trivial (by simp) (by simp) (fun j _ hj _ ih => ?_) (fun _ _ => ?_)
  · refine lp_step hmix L33_0_g [1, 4, 5, 6, 7] L33_0.eq_1 ?_
    have e1 : (j : Int) < b.slots.length := by omega
    obtain ⟨m, em⟩ : ∃ m, m = (b.days.length + 1) ^ j := ⟨_, rfl⟩
    have hm : m ≤ 8 ^ 3 := by rw [em]; exact Nat.le_trans (Nat.pow_le_pow_left (by omega) _) (Nat.pow_le_pow_right (by omega) (by omega))
    have hmul : (m : Int) * ((b.days.length : Int) + 1) = (((b.days.length + 1) ^ (j + 1) : Nat) : Int) := by
      rw [Nat.pow_succ, ← em, Int.natCast_mul]; rfl
    have hm2 : (b.days.length + 1) ^ (j + 1) ≤ 8 ^ 3 := Nat.le_trans (Nat.pow_le_pow_left (by omega) _) (Nat.pow_le_pow_right (by omega) (by omega))
    have ih := ih () trivial
    rw [← hmul] at ih
    have hI : I64 ((m : Int) * ((b.days.length : Int) + 1)) := by rw [hmul]; simp only [I64]; omega
    rw [← em]
    simp only [go_sem, hbx2, l1, e1, l2, ↓reduceIte, Nat.reduceEqDiff, Nat.reduceAdd, Nat.reduceSub, Nat.reduceMul, Nat.reduceLT, Nat.reduceLeDiff, Int.reduceLE, Int.reduceLT, Int.reduceAdd, Int.reduceSub, Int.reduceMul, Int.reduceEq, Int.reduceBEq, Int.reduceBNe, Int.reduceNeg, Int.reduceToNat, reduceCtorEq]
    exact ⟨(by unfold I64; omega), hI, (by unfold I64; omega), by simpa using ih⟩
  · refine lp_step hmix L33_0_g [1, 4, 5, 6, 7] L33_0.eq_1 ?_
    have e1 : ¬ (b.slots.length : Int) < b.slots.length := by omega
    have t1 : (if (0 : Int) ≤ b.days.length + 1 then some ((b.days.length : Int) + 1).toNat else none) = some (b.days.length + 1) := by
      rw [if_pos (by omega)]; rfl
    obtain ⟨many, em⟩ : ∃ m, m = (b.days.length + 1) ^ b.slots.length := ⟨_, rfl⟩
    have hm : many ≤ 8 ^ 3 := by rw [em]; exact Nat.le_trans (Nat.pow_le_pow_left (by omega) _) (Nat.pow_le_pow_right (by omega) (by omega))
    rw [← em]
    simp only [go_sem, hbx2, l1, e1, l2, t1, beq_self_eq_true, ↓reduceIte, Nat.reduceEqDiff, Nat.reduceAdd, Nat.reduceSub, Nat.reduceMul, Nat.reduceLT, Nat.reduceLeDiff, Int.reduceLE, Int.reduceLT, Int.reduceAdd, Int.reduceSub, Int.reduceMul, Int.reduceEq, Int.reduceBEq, Int.reduceBNe, Int.reduceNeg, Int.reduceToNat, reduceCtorEq]
    refine ⟨(by unfold I64; omega), ⟨Nat.le_refl _, by omega⟩, ?_⟩
    have ms0 : (H2 ++ [some (Blk.row (AV.nilS :: reps [AV.nilS] b.days.length))]).set (H2.length + 1) none = H2 ++ [some (Blk.row (AV.nilS :: reps [AV.nilS] b.days.length))] := List.set_eq_of_length_le (by simp)
    have hbx3 : ∀ L, (H2 ++ L)[h.length]? = some (some (.row (bayC b v))) := fun L => getElem?_app_left hbx2
    refine dr_use hmix O33_0 [] D33_0.eq_1 O33_0_ok O33_0_ok2 List.nodup_nil (by simp) ?_
    simp only [go_sem, O33_0, ms0, hbx3, hbx2, l2, Nat.mul_one, beq_self_eq_true, ↓reduceIte, Nat.reduceEqDiff, Nat.reduceAdd, Nat.reduceSub, Nat.reduceMul, Nat.reduceLT, Nat.reduceLeDiff, Int.reduceLE, Int.reduceLT, Int.reduceAdd, Int.reduceSub, Int.reduceMul, Int.reduceEq, Int.reduceBEq, Int.reduceBNe, Int.reduceNeg, Int.reduceToNat, reduceCtorEq]
    refine ⟨⟨Nat.le_refl _, by omega⟩, by omega, by rw [reps_1]; simp, (by unfold I64; omega), ?_⟩
    obtain ⟨ib, eib⟩ : ∃ ib, ib = H2.length := ⟨_, rfl⟩
    have hrow : List.take b.days.length (AV.nilS :: reps [AV.nilS] b.days.length) ++ AV.sl (Pl.own (List.length H2 + 1) 0) many 3 true :: List.drop b.days.length (reps [AV.nilS] b.days.length) = List.replicate b.days.length .nilS ++ [AV.sl (Pl.own (ib + 1) 0) many 3 true] := by
      rw [reps_1, ← List.replicate_succ, List.take_replicate, List.drop_replicate, eib]; simp
    have hrow0 : reps [AV.int IntKind.i64 0, AV.int IntKind.i64 0, AV.int IntKind.i64 0] many = flatC (List.replicate many ⟨0, 0, 0⟩) := by
      clear hm em hrow
      induction many with
      | zero => rfl
      | succ m ih => rw [List.replicate_succ, flatC, List.flatMap_cons, ← flatC, ← ih]; rfl
    rw [hrow, hrow0, ← eib]
    have hbxib : h.length ≠ ib := by have := get_lt hbx2; omega
    refine lp_ind (S := Nat × Heap × List AV) (F := fun s => [(1, .ptr (.own h.length 0)), (4, tv), (5, av), (6, .int .i64 many), (8, .sl (.own ib 0) (b.days.length + 1) 1 true), (9, .int .i64 ((b.days.length : Int) - 1 - s.1))]) (H := fun s => s.2.1) (meas := fun s => b.days.length - s.1)
      (Inv := fun s => s.1 ≤ b.days.length ∧ HSub h (s.2.1.set ib none) ∧ s.2.1[ib]? = some (some (.row s.2.2)) ∧ LJ w0 (s.2.1.set ib none) b v tv av h.length (b.days.length - s.1) s.2.2 ∧ ∀ j, j < b.days.length - s.1 → s.2.2[j]? = some .nilS)
      (0, _, List.replicate b.days.length .nilS ++ [AV.sl (Pl.own (ib + 1) 0) many 3 true]) ⟨Nat.zero_le _, ?_, by rw [eib]; simp, ?_, fun j hj => ?_⟩ (by simp) rfl ?_
    · simp only
      rw [show ∀ r : Option Blk, ∀ q : Option Blk, (H2 ++ [r, q]).set ib none = H2 ++ [none, q] from fun r q => by rw [eib, List.set_append_right _ _ (Nat.le_refl _)]; simp]
      exact hh2.app
    · simp only
      rw [show ∀ r : Option Blk, ∀ q : Option Blk, (H2 ++ [r, q]).set ib none = H2 ++ [none, q] from fun r q => by rw [eib, List.set_append_right _ _ (Nat.le_refl _)]; simp]
      refine ⟨getElem?_app_left hbx2, hR2.app, hT2.app, hA.app, by simp, fun k h1 h2 => ?_⟩
      obtain rfl : k = b.days.length := by omega
      refine ⟨.sl (.own (ib + 1) 0) many 3 true, by rw [List.getElem?_append_right (by simp)]; simp, ?_⟩
      rw [Nat.sub_self, levB, manyB, ← em]
      have := Sl_lit (w0 := w0) (h := H2) ((List.replicate many (⟨0, 0, 0⟩ : Ch3)).map Ch3.c) (es := 3) true (L := [none, some (Blk.row (flatC (List.replicate many ⟨0, 0, 0⟩)))]) 1 (by simp [flatC, List.flatMap_def]) (by simp [Ch3.c])
      rw [List.length_map, List.length_replicate, ← eib] at this
      exact this
    · simp only at hj ⊢
      rw [List.getElem?_append_left (by simpa using hj), List.getElem?_replicate, if_pos (by omega)]
    rintro ⟨m, G, bl⟩ ⟨hm', hsG, hgb, J, hnil⟩ ih
    simp only at hm' hsG hgb J hnil ih
    refine lp_step hmix L33_3_g [1, 4, 5, 6, 8, 9] L33_3.eq_1 ?_
    by_cases hmn : m < b.days.length
    · obtain ⟨nn, enn⟩ : ∃ nn, nn = b.days.length - 1 - m := ⟨_, rfl⟩
      have c0 : (b.days.length : Int) - 1 - m = nn := by omega
      have c1 : (0 : Int) ≤ nn := by omega
      rw [c0]
      simp only [go_sem, c1, ↓reduceIte, Nat.reduceEqDiff, Nat.reduceAdd, Nat.reduceSub, Nat.reduceMul, Nat.reduceLT, Nat.reduceLeDiff, Int.reduceLE, Int.reduceLT, Int.reduceAdd, Int.reduceSub, Int.reduceMul, Int.reduceEq, Int.reduceBEq, Int.reduceBNe, Int.reduceNeg, Int.reduceToNat, reduceCtorEq]
      refine night_lp b v tv av h.length ib nn many bl G _ _ _ hB hN hd (by omega) em hgb (hnil nn (by omega)) hbxib ⟨J.bx, J.R, J.T, J.A, J.len, fun k h1 h2 => by rw [em]; exact J.lv k (by omega) h2⟩ (fun G' bl' q1 q2 q3 q4 q5 => ?_)
      simp only [go_sem, ↓reduceIte, Nat.reduceEqDiff, Nat.reduceAdd, Nat.reduceSub, Nat.reduceMul, Nat.reduceLT, Nat.reduceLeDiff, Int.reduceLE, Int.reduceLT, Int.reduceAdd, Int.reduceSub, Int.reduceMul, Int.reduceEq, Int.reduceBEq, Int.reduceBNe, Int.reduceNeg, Int.reduceToNat, reduceCtorEq]
      refine ⟨(by unfold I64; omega), ?_⟩
      have := ih (m + 1, G', bl') ⟨by simp only; omega, hsG.trans q1, q2, ⟨q1.2 _ _ J.bx, J.R.sub q1, J.T.sub q1, J.A.sub q1, by rw [q3]; exact J.len, fun k h1 h2 => ?_⟩, fun j hj => ?_⟩ (by simp only; omega)
      · simp only at this
        rw [show (b.days.length : Int) - 1 - ((m + 1 : Nat) : Int) = (nn : Int) - 1 by omega] at this
        exact this
      · simp only at h1 ⊢
        by_cases e : k = nn
        · subst e
          obtain ⟨x, x1, x2⟩ := q5
          exact ⟨x, x1, by rw [manyB, ← em]; exact x2⟩
        · obtain ⟨x, x1, x2⟩ := J.lv k (by omega) h2
          exact ⟨x, by rw [q4 k e]; exact x1, x2.sub q1⟩
      · simp only at hj ⊢
        rw [q4 j (by omega)]; exact hnil j (by omega)
    · have hmE : m = b.days.length := by omega
      have c1 : ¬ (0 : Int) ≤ (b.days.length : Int) - 1 - m := by omega
      simp only [go_sem, c1, ↓reduceIte, Nat.reduceEqDiff, Nat.reduceAdd, Nat.reduceSub, Nat.reduceMul, Nat.reduceLT, Nat.reduceLeDiff, Int.reduceLE, Int.reduceLT, Int.reduceAdd, Int.reduceSub, Int.reduceMul, Int.reduceEq, Int.reduceBEq, Int.reduceBNe, Int.reduceNeg, Int.reduceToNat, reduceCtorEq]
      subst hmE
      rw [Nat.sub_self] at J
      clear ih hnil
      have JG : LJ w0 G b v tv av h.length 0 bl := ⟨HSub.msk.2 _ _ J.bx, J.R.sub HSub.msk, J.T.sub HSub.msk, J.A.sub HSub.msk, J.len, fun k h1 h2 => by obtain ⟨x, x1, x2⟩ := J.lv k h1 h2; exact ⟨x, x1, x2.sub HSub.msk⟩⟩
      have hsG' : HSub h G := hsG.trans HSub.msk
      have hbG := JG.bx
      have l1G := (JG.R.slots.use).1
      simp only [List.length_map] at l1G
      refine lp_all (fun s => [(1, .ptr (.own h.length 0)), (4, tv), (5, av), (8, .sl (.own ib 0) (b.days.length + 1) 1 true), (16, .int .i64 0), (17, .int .i64 s)]) (fun s => ∀ hs : s < b.slots.length, ¬ lastsD Span.high b s (-1) < 0) b.slots.length rfl (fun s hs hall ih => ?_) (fun hall => ?_)
      · refine lp_step hmix L33_4_g [1, 4, 5, 8, 16, 17] L33_4.eq_1 ?_
        have m1 : (s : Int) < b.slots.length := by omega
        have hsT : s < (tableD b).length := by rw [table_len]; exact hs
        have hkT : 0 < (tableD b)[s].length := by rw [table_row hsT]; simp
        obtain ⟨pp, qq, xx, t1, t2, t3, t4⟩ := JG.T.at_ hsT hkT
        have hval : (tableD b)[s][0] = lastsD Span.high b s (-1) := by
          simp only [table_row hsT, List.getElem_map, List.getElem_range]; rfl
        rw [hval] at t4
        have t2' := t2 []
        have t4' := t4 []
        rw [List.append_nil] at t2' t4'
        simp only [go_sem, hbG, l1G, m1, t1, t2, t2', t3, t4, t4', ↓reduceIte, Nat.reduceEqDiff, Nat.reduceAdd, Nat.reduceSub, Nat.reduceMul, Nat.reduceLT, Nat.reduceLeDiff, Int.reduceLE, Int.reduceLT, Int.reduceAdd, Int.reduceSub, Int.reduceMul, Int.reduceEq, Int.reduceBEq, Int.reduceBNe, Int.reduceNeg, Int.reduceToNat, reduceCtorEq]
        refine ⟨fun e => ?_, fun e => ⟨(by unfold I64; omega), ih fun _ => by omega⟩⟩
        have : bestB b = none := by
          rw [bestB, if_pos]; rw [List.any_eq_true]
          exact ⟨s, List.mem_range.2 hs, by simpa using e⟩
        simp only [BestK, this]
        exact ⟨hsG', trivial⟩
      · refine lp_step hmix L33_4_g [1, 4, 5, 8, 16, 17] L33_4.eq_1 ?_
        have m1 : ¬ (b.slots.length : Int) < b.slots.length := by omega
        have hbest : bestB b = extB b b.days.length 0 := by
          rw [bestB, if_neg]; rw [Bool.not_eq_true, List.any_eq_false]
          intro s hs
          have := hall s (List.mem_range.1 hs) (List.mem_range.1 hs)
          simpa using this
        simp only [go_sem, hbG, l1G, m1, ↓reduceIte, Nat.reduceEqDiff, Nat.reduceAdd, Nat.reduceSub, Nat.reduceMul, Nat.reduceLT, Nat.reduceLeDiff, Int.reduceLE, Int.reduceLT, Int.reduceAdd, Int.reduceSub, Int.reduceMul, Int.reduceEq, Int.reduceBEq, Int.reduceBNe, Int.reduceNeg, Int.reduceToNat, reduceCtorEq]
        exact ext_lp b v tv av ib bl G hB hN hd hsG' hgb JG hbest
end Go.Proofs.Ab

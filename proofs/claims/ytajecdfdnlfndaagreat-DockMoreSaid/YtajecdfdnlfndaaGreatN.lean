/- The own layer under the proofs of this seat, part N: what calls of the program come to on an abstract heap. No condition. -/
import Derived.Test.YtajecdfdnlfndaaGreatK
import Derived.Test.YtajecdfdnlfndaaGreatI
import Derived.Test.YtajecdfdnlfndaaGreatM
set_option linter.unusedSimpArgs false
set_option linter.unusedVariables false
namespace Go.Proofs.Ab
open Go Go.Proofs
def iU (s : aT) (t : Int) : Bool := inB t s.cl s.gh
def lZ (a b : aT) : Bool := iU a b.cl || iU b a.cl
def pU (l : List aT) (i : Nat) : aT := l.getD i ⟨0,0,0,0⟩
def dD (t : Int) : List aT → Nat → List Int
 | [],_ => []
 | s :: r,i => if iU s t then (i : Int) :: dD t r (i + 1) else dD t r (i + 1)
def vM (l : List aT) (t : Int) : List Int := dD t l 0
def qU (l : List aT) (bs : Int) (t : Int) : Bool := decide (bs < (vM l t).length)
def gC (l : List aT) (bs : Int) : Option Int := (dB l).find? (qU l bs)
def fH (lo hi a b : Int) : Bool := decide (a ≤ lo) && (decide (lo ≤ hi) && decide (hi ≤ b))
def cW (s : aT) : Bool := fH s.cl s.ch 0 1440 && (fH s.gl s.gh 0 1440 && (decide (s.cl ≤ s.gl) && decide (s.ch ≤ s.gh)))
def zP (l : List aT) (out : List Int) (b : Int) : Bool := (List.range out.length).all fun i => !(decide (out.getD i 0 = b) && lZ (pU l i) (pU l out.length))
def bsD (l : List aT) (bs : Nat) : Nat → List Int → Option (List Int)
 | 0,out => some out
 | k + 1,out => (List.range bs).findSome? fun b : Nat => if zP l out (b : Int) then bsD l bs k (out ++ [(b : Int)]) else none
end Go.Proofs.Ab
namespace Go.Proofs.Ab
open Go Go.Proofs
variable {w0 : World} {h : aA}
attribute [local irreducible] ACall bC cT aU cV rvC lp rg dr ex un rv
theorem oF (s : aT) (t : Int) : aU Tryz.prog w0 119 [.agg s.c,.int .i64 t] h (.bool (iU s t)) h := by
 refine aO aV rK wY wX (qE rfl) (by simp [AV.bdd,AV.bdds]) fun hb ha => aY ?_
 simp only [go_sem,mf119]
 refine aI (zK t s.cl s.gh).v ?_
 simp only [go_sem]
 rfl
theorem meet_c (a b : aT) : aU Tryz.prog w0 72 [.agg a.c,.agg b.c] h (.bool (lZ a b)) h := by
 refine aO aV vU aBd aBc (qE rfl) (by simp [AV.bdd,AV.bdds]) fun hb ha => aY ?_
 simp only [go_sem,mf72]
 refine aI (oF a b.cl).v ?_
 cases e : iU a b.cl with
 | true => simp only [go_sem]; simp [lZ,e]
 | false =>
 simp only [go_sem]
 refine aI (oF b a.cl).v ?_
 simp only [go_sem]
 simp [lZ,e]
theorem yP (s : aT) : aU Tryz.prog w0 114 [.agg s.c] h (.bool (cW s)) h := by
 refine aO aV rO xG xF (qE rfl) (by simp [AV.bdd,AV.bdds]) fun hb ha => aY ?_
 have s1 : ∀ {H : aA},aU Tryz.prog w0 115 [.agg [.int .i64 s.cl,.int .i64 s.ch],.int .i64 0,.int .i64 1440] H (.bool (fH s.cl s.ch 0 1440)) H := by
  intro H
  have := oH (w0 := w0) (h := H) s.cl s.ch 0 1440
  rwa [show fH s.cl s.ch 0 1440 = (decide (0 ≤ s.cl) && (decide (s.cl ≤ s.ch) && decide (s.ch ≤ 1440))) from rfl]
 have s2 : ∀ {H : aA},aU Tryz.prog w0 115 [.agg [.int .i64 s.gl,.int .i64 s.gh],.int .i64 0,.int .i64 1440] H (.bool (fH s.gl s.gh 0 1440)) H := by
  intro H
  have := oH (w0 := w0) (h := H) s.gl s.gh 0 1440
  rwa [show fH s.gl s.gh 0 1440 = (decide (0 ≤ s.gl) && (decide (s.gl ≤ s.gh) && decide (s.gh ≤ 1440))) from rfl]
 simp only [go_sem,mf114]
 refine aI s1.v ?_
 cases e1 : fH s.cl s.ch 0 1440 with
 | false => simp only [go_sem]; simp [cW,e1]
 | true =>
 simp only [go_sem]
 refine aI s2.v ?_
 cases e2 : fH s.gl s.gh 0 1440 with
 | false => simp only [go_sem]; simp [cW,e2]
 | true =>
 simp only [go_sem]
 exact ⟨fun a => by simp [cW,e1,e2,a],fun a => by simp [cW,a]⟩
def cY (l : List aT) (bs : Int) : Int := if 12 < l.length then 3 else cond (inB bs 0 6 && l.all cW) 0 2
theorem aAv (bs : Int) {v : AV} {l : List aT} (hv : Sl w0 h 4 v (l.map aT.c)) : aU Tryz.prog w0 69 [v,.int .i64 bs] h (.int .i64 (cY l bs)) h := by
 refine aO aV vW aBh aBg (qE rfl) (by simp [AV.bdd,AV.bdds]) fun hb ha => aY ?_
 have hlen : gM v = some (.int .i64 l.length) := by have := hv.use.1; rwa [List.length_map] at this
 by_cases hL : 12 < l.length
 · have e1 : (l.length : Int) > 12 := by omega
   simp only [go_sem,mf69,hlen,e1]
   rw [cY,if_pos hL]
 have e1 : ¬ (l.length : Int) > 12 := by omega
 simp only [go_sem,mf69,hlen,e1]
 refine aI (zK bs 0 6).v ?_
 rw [cY,if_neg hL]
 cases e2 : inB bs 0 6 with
 | false => simp only [go_sem]; simp
 | true =>
 simp only [go_sem]
 have hall := nA (w0 := w0) (h := h ++ []) (l.map aT.c) v (.fn (.func 114) [] []) (fun j => cW (l.getD j ⟨0,0,0,0⟩)) hv.app (fun c hc => by
  obtain ⟨z,_,rfl⟩ := List.mem_map.1 hc; rfl) (by rw [List.length_map]; omega) (fun j c hc _ L => by
  rw [List.getElem?_map] at hc
  obtain ⟨z,hz,rfl⟩ := qD.1 hc
  rw [rS hz]
  exact aU.vc (P := Tryz.prog) (first := []) (capt := []) (yP z))
 rw [List.length_map,fX] at hall
 refine aI hall.v ?_
 cases e3 : l.all cW with
 | false => simp only [go_sem]; simp
 | true => simp only [go_sem]; simp
theorem yO {l : List aT} {bs : Int} (e : cY l bs = 0) : l.length ≤ 12 ∧ (0 ≤ bs ∧ bs ≤ 6) ∧ l.all cW = true := by
 unfold cY at e
 split at e
 · omega
 · cases h2 : inB bs 0 6 && l.all cW with
   | false => rw [h2] at e; simp at e
   | true =>
    rw [Bool.and_eq_true,inB,Bool.and_eq_true,decide_eq_true_eq,decide_eq_true_eq] at h2
    exact ⟨by omega,h2⟩
theorem fG {l : List aT} {j : Nat} (hj : j < l.length) : (l.map aT.c)[j]? = some l[j].c := by rw [List.getElem?_map,qA hj]; rfl
theorem kR (t : Int) (s : aT) : ∀ (l : List aT) (i : Nat),dD t (l ++ [s]) i = dD t l i ++ (if iU s t then [((i + l.length : Nat) : Int)] else [])
 | [],i => by simp [dD]
 | a :: l,i => by
  have := kR t s l (i + 1)
  rw [show i + 1 + l.length = i + (a :: l).length by simp; omega] at this
  simp only [List.cons_append,dD,this]
  split <;> simp
theorem lT (t : Int) : ∀ (l : List aT) (i : Nat),(dD t l i).length ≤ l.length
 | [],_ => by simp [dD]
 | a :: l,i => by
  have := lT t l (i + 1)
  simp only [dD]; split <;> simp <;> omega
theorem Gro.len {H : aA} {es n : Nat} {ov : AV} {vs : List AV} (g : Gro h H es n ov vs) : gM ov = some (.int .i64 n) := by
 rcases g.own with ⟨rfl,rfl,_⟩ | ⟨_,_,_,rfl,_⟩ <;> rfl
theorem yZ (t : Int) {v : AV} {l : List aT} (hv : Sl w0 h 4 v (l.map aT.c)) (hn : l.length < 1000) :
 ACall Tryz.prog w0 73 [v,.int .i64 t] h fun y H => Gro h H 1 (vM l t).length y (eO (vM l t)) := by
 refine bB aV vT aBb aBa (qE rfl) fun hb ha => aY ?_
 have hlen : gM v = some (.int .i64 l.length) := by have := hv.use.1; rwa [List.length_map] at this
 simp only [go_sem,mf73,hlen]
 refine eL (S := Nat × aA × AV) (F := fun s => [(1,.int .i64 t),(5,s.2.2),(8,v),(9,.int .i64 l.length),(10,.int .i64 s.1)]) (H := fun s => s.2.1) (meas := fun s => l.length - s.1)
  (Inv := fun s => s.1 ≤ l.length ∧ Gro h s.2.1 1 (dD t (l.take s.1) 0).length s.2.2 (eO (dD t (l.take s.1) 0))) (0,h,.nilS) ⟨Nat.zero_le _,by simpa [dD,eO] using Gro.nil aH.refl⟩ rfl (by simp) ?_
 rintro ⟨j,H,ov⟩ ⟨hj,hG⟩ ih
 simp only at hj hG ih ⊢
 refine bF aV aED [1,5,8,9,10] L73_0.eq_1 ?_
 by_cases hjl : j < l.length
 · have e1 : (j : Int) < l.length := by omega
   obtain ⟨_,q,hix,hrow,_⟩ := (hv.sub hG.sub).use
   rw [List.length_map] at hix
   have e2 := hix j hjl
   have e3 : ∀ L,rdn w0 (H ++ L) (q.add (j * 4)) 4 = some l[j].c := fun L => cK (hrow j _ (fG hjl))
   have e3' := hrow j _ (fG hjl)
   have hs := kR t l[j] (l.take j) 0
   rw [← List.take_succ_eq_append_getElem hjl,List.length_take,Nat.min_eq_left hj,Nat.zero_add] at hs
   simp only [go_sem,e1,e2,e3,e3']
   refine aI (oF l[j] t).v ?_
   cases e4 : iU l[j] t with
   | false =>
    rw [e4] at hs
    simp only [go_sem]
    refine ⟨(by unfold I64; omega),ih (j + 1,_,ov) ⟨by simp only; omega,by rw [hs]; simpa using hG.app⟩ (by simp only; omega)⟩
   | true =>
    rw [e4] at hs
    obtain ⟨X,eX⟩ : ∃ X,X = H ++ [some (.row l[j].c),some (.row [.int .i64 j])] := ⟨_,rfl⟩
    have gX : Gro h X 1 (dD t (l.take j) 0).length ov (eO (dD t (l.take j) 0)) := eX ▸ hG.app
    have hk : X[H.length + 1]? = some (some (.row [.int .i64 j])) := by rw [eX,qI (by omega)]; simp
    have hpl := lT t (l.take j) 0
    rw [List.length_take] at hpl
    obtain ⟨G,e5,e6⟩ := gX.more (w0 := w0) (b := 8) (f := true) hk rfl rfl (by omega) (by omega)
    simp only [go_sem]
    simp only [aT.c] at eX
    rw [← eX,e5]
    simp only [go_sem]
    refine ⟨(by unfold I64; omega),ih (j + 1,G,_) ⟨by simp only; omega,?_⟩ (by simp only; omega)⟩
    rw [hs]
    simpa [eO] using e6
 · have e1 : ¬ (j : Int) < l.length := by omega
   obtain rfl : j = l.length := by omega
   simp only [go_sem,e1]
   simpa [List.take_length,vM] using hG
theorem uH (t bs : Int) {p q : Pl} {v : AV} {l : List aT} (hp : rd w0 h p = some v) (hq : rd w0 h q = some (.int .i64 bs)) (hv : Sl w0 h 4 v (l.map aT.c)) (hn : l.length < 1000) :
 aU Tryz.prog w0 118 [.int .i64 t,.ptr p,.ptr q] h (.bool (qU l bs t)) h := by
 refine cN trivial (bB aV rL xA wZ (qE rfl) fun hb ha => aY ?_)
 have e2 : ∀ L,rd w0 (h ++ L) q = some (.int .i64 bs) := fun L => fW hq
 simp only [go_sem,mf118]
 refine aB8 aV [0,1,4,2,3,5,6] [o_ 5 (l_ 1),o_ 6 (m_ 0),o_ 9 (l_ 2),.call (some 7) none (f_ 73) [(.t 5),(.t 6)]] [([(2,o_ 9 (l_ 2))],[o_ 8 (.len (.t 7)),o_ 10 (.bin .gtr (.t 8) (.t 9)),o_ 4 (m_ 10)])] rfl rfl (by kernel_rfl) ?_
 have e1 : ∀ L,rd w0 (h ++ L) p = some v := fun L => fW hp
 simp only [go_sem,e1,e2]
 rw [List.append_nil]
 refine aX (ACall.vc (first := []) (args := [v,.int .i64 t]) (yZ t hv hn)) ?_
 intro y H hG
 have hq' := hG.sub.rd hq
 have e3 : ∀ L,rd w0 (H ++ L) q = some (.int .i64 bs) := fun L => fW hq'
 simp only [go_sem,hq',e3,hG.len,true_and]
 exact ⟨hG.sub,rfl⟩
def IV (x : Int) (_ : aA) (args : List AV) : Prop := args = [.int .i64 x]
theorem yM {C : List Nat} {q : Nat} {p : Pl} {v : AV} {l : List Int} {K : aA → Prop} (hp : rd w0 (msk C h) p = some v) (hv : SlI w0 (msk C h) v l) (hn : l.length ≤ 1000)
 (hI : cX Tryz.prog w0 q C IV (· = []) K l [] h) : ACall Tryz.prog w0 148 [.yld q,.ptr p] h fun _ H => K H := by
 refine bB aV rB wG wF (qE rfl) fun hb ha => aY ?_
 have e0 : ∀ L,rd w0 (h ++ L) p = some v := fun L => fW (lL.rd hp)
 have hlen := (SlI.use hv).1
 simp only [go_sem,mf148,e0,hlen]
 refine eL (S := Nat × aA) (F := fun s => [(0,.yld q),(5,v),(6,.int .i64 l.length),(7,.int .i64 s.1)]) (H := fun s => s.2) (meas := fun s => l.length - s.1)
  (Inv := fun s => s.1 ≤ l.length ∧ bK C h s.2 ∧ cX Tryz.prog w0 q C IV (· = []) K (l.drop s.1) [] s.2) (0,h) ⟨Nat.zero_le _,bK.refl,hI⟩ rfl (by simp) ?_
 rintro ⟨j,H⟩ ⟨hj,kH,iH⟩ ih
 simp only at hj kH iH ih ⊢
 refine bF aV aCm [0,5,6,7] L148_0.eq_1 ?_
 by_cases hjl : j < l.length
 · have e1 : (j : Int) < l.length := by omega
   have hvH := Sl.sub hv ((kH.msk (ms := C) fun i hi => .inl hi).trans (lL (ms := C)))
   obtain ⟨pp,i1,r1,r1'⟩ := SlI.at_ hvH hjl
   rw [List.drop_eq_getElem_cons hjl] at iH
   simp only [go_sem,e1,i1,r1,r1']
   refine aX (cX.call iH bK.refl [] rfl (fun i hi => by cases hi) (fun i hi => by cases hi) rfl) ?_
   rintro y G1 ⟨k1,r1⟩
   have k2 : bK C h G1 := kH.trans k1
   rcases r1 with ⟨rfl,it⟩ | ⟨rfl,kk⟩
   · simp only [go_sem]
     exact ⟨(by unfold I64; omega),ih (j + 1,G1) ⟨by simp only; omega,k2,it⟩ (by simp only; omega)⟩
   · simp only [go_sem]
     exact kk _ bK.refl
 · have e1 : ¬ (j : Int) < l.length := by omega
   obtain rfl : j = l.length := by omega
   rw [List.drop_length] at iH
   simp only [go_sem,e1]
   exact iH _ bK.refl
def fB (o : Option Int) : AV := match o with
 | some d => .tup [.int .i64 d,.bool true]
 | none => .tup [.int .i64 0,.bool false]
theorem rW {p : Pl} {v fv : AV} {l : List Int} (P : Int → Bool) (hp : rd w0 h p = some v) (hv : SlI w0 h v l) (hn : l.length ≤ 1000) (hfo : cellsOf fv = some [fv])
 (hf : ∀ d ∈ l,∀ H,aH h H → cV Tryz.prog w0 fv [.int .i64 d] H (.bool (P d)) H) :
 aU Tryz.prog w0 116 [.fn (.func 148) [] [.ptr p],fv] h (fB (l.find? P)) h := by
 have hbv : ∀ N,(fB (l.find? P)).bdd N := fun N => by unfold fB; split <;> simp [AV.bdd,AV.bdds]
 refine cN (hbv _) (bB aV rM xC xB (qE rfl) fun hb ha => aY ?_)
 simp only [go_sem,mf116,hfo]
 refine oM [3,4,5,8] ?_
 simp only [go_sem]
 refine tJ (fid := 148) (first := []) rfl (.inl rfl) fun hca hcb hps => ?_
 simp only [go_sem]
 obtain ⟨N,eN⟩ : ∃ N,N = h.length := ⟨_,rfl⟩
 obtain ⟨LB,hLB⟩ : ∃ LB : LoopState → Option Code → Blk,LB = Blk.loop 15 [(3,AV.ptr (Pl.own (List.length h) 0)),(4,AV.ptr (Pl.own (List.length h + 1) 0)),(5,AV.ptr (Pl.own (List.length h + 2) 0)),(8,AV.fn (Fn.func 148) [] [AV.ptr p])] #[9] (bG (bY 116) [1,0,1,0,0]) (bG (bY 116) [1,0,1,0,1]) := ⟨_,rfl⟩
 rw [← hLB]
 obtain ⟨C,eC⟩ : ∃ C,C = [N + 1,N + 2,N + 3] := ⟨_,rfl⟩
 obtain ⟨G0,eG0⟩ : ∃ G0 : aA,G0 = h ++ [some (.row [fv]),some (.row [.int .i64 0]),some (.row [.bool false]),some (LB .ready none)] := ⟨_,rfl⟩
 have hm : aH h (msk C G0) := by
  rw [eG0]
  refine ⟨by rw [eT]; simp,fun i b e => ?_⟩
  have := aQ e
  rw [jP (by rw [eC]; simp; omega)]; exact aB e
 rw [← eG0,← eN]
 refine yM (C := C) (hm.rd hp) (Sl.sub hv hm) hn ?_
 have claim : ∀ (r : List Int),(∀ d ∈ r,d ∈ l) → l.find? P = r.find? P → ∀ H,aH h H → H[N]? = some (some (.row [fv])) → H[N + 1]? = some (some (.row [.int .i64 0])) → H[N + 2]? = some (some (.row [.bool false])) → H[N + 3]? = some (some (LB .ready none)) →
  cX Tryz.prog w0 (N + 3) C IV (· = []) (fun h' => rgE Tryz.prog w0 none 15 N (tN w0 [RV.c 4 none,RV.c 5 none] fun v' h' => aH h h' ∧ v' = fB (List.find? P l))
  [It.inBlk 0,It.code ((SC.reg [MIx.op (some 7) none (MOp.mov (Opd.k (AV.int IntKind.i64 0)))]).seq ((SC.reg [MIx.op (some 14) none (MOp.mov (Opd.t 7)),MIx.op none none (MOp.store (Opd.t 4) (Opd.t 14) 1),MIx.op none none (MOp.store (Opd.t 5) (Opd.k (AV.bool false)) 1)]).seq SC.ret))]
  [(3,AV.ptr (Pl.own N 0)),(4,AV.ptr (Pl.own (N + 1) 0)),(5,AV.ptr (Pl.own (N + 2) 0)),(8,AV.fn (Fn.func 148) [] [AV.ptr p])] h'[N + 3]? (List.set h' (N + 3) none)) r [] H := by
  intro r
  induction r with
  | nil =>
   intro hr hfd H sH g0 g1 g2 g3 H2 kp
   have f1 := kp.at_ _ _ (by simp) g1
   have f2 := kp.at_ _ _ (by simp) g2
   have f3 := kp.at_ _ _ (by simp) g3
   have s2 : aH h H2 := ⟨Nat.le_trans sH.1 kp.le,fun i b e => kp.at_ _ _ (by simp) (sH.2 _ _ e)⟩
   obtain ⟨X,eX⟩ : ∃ X,X = H2.set (N + 3) none := ⟨_,rfl⟩
   have lX : X.length = H2.length := by rw [eX,List.length_set]
   have q3 := aQ f3
   have x1 : X[N + 1]? = some (some (.row [.int .i64 0])) := by rw [eX,qB (by omega)]; exact f1
   have x2 : ∀ b,(X.set (N + 1) b)[N + 2]? = some (some (.row [.bool false])) := fun b => by
    rw [qB (by omega),eX,qB (by omega)]; exact f2
   have x3 : ∀ b b',((X.set (N + 1) b).set (N + 2) b')[N + 1]? = some b := fun b b' => by
    rw [qB (by omega),qF (by omega)]
   have x4 : ∀ b b',((X.set (N + 1) b).set (N + 2) b')[N + 2]? = some b' := fun b b' => by
    rw [qF (by simp; omega)]
   simp only [f3,← eX,hLB]
   simp only [go_sem,x1,x2,x3,x4]
   have s3 : aH h X := by rw [eX]; exact s2.setR (by omega)
   exact ⟨(s3.setR (by omega)).setR (by omega),by rw [hfd]; rfl⟩
  | cons x r ih =>
   intro hr hfd H sH g0 g1 g2 g3 H2 args O2 hO kp hO1 hO2 hV
   subst hV
   have f0 := kp.at_ _ _ (by simp) g0
   have f1 := kp.at_ _ _ (by simp) g1
   have f2 := kp.at_ _ _ (by simp) g2
   have f3 := kp.at_ _ _ (by simp) g3
   have s2 : aH h H2 := ⟨Nat.le_trans sH.1 kp.le,fun i b e => kp.at_ _ _ (by simp) (sH.2 _ _ e)⟩
   have q3 := aQ f3
   have f3' := f3
   rw [hLB,← eN] at f3'
   refine kO (psl := [9]) aV rfl aAm aAl pM.eq_1 R116_0b.eq_1 f3' rfl hps hca hcb fun hb2 ha2 => ?_
   obtain ⟨LY,hLY⟩ : ∃ b,b = Blk.loop 15 [(3,AV.ptr (Pl.own N 0)),(4,AV.ptr (Pl.own (N + 1) 0)),(5,AV.ptr (Pl.own (N + 2) 0)),(8,AV.fn (Fn.func 148) [] [AV.ptr p])] #[9] (bG (bY 116) [1,0,1,0,0]) (bG (bY 116) [1,0,1,0,1]) LoopState.busy none := ⟨_,rfl⟩
   simp only [go_sem,f3']
   rw [← hLY]
   obtain ⟨Y,eY⟩ : ∃ Y,Y = H2.set (N + 3) (some LY) := ⟨_,rfl⟩
   have lY : Y.length = H2.length := by rw [eY]; simp
   have old : ∀ (i : Nat) b,i ≠ N + 3 → H2[i]? = some (some b) → Y[i]? = some (some b) := fun i b hi e => by
    rw [eY,qB (fun e => hi e.symm)]; exact e
   have y0 := old _ _ (by omega) f0
   have y1 := old _ _ (by omega) f1
   have y2 := old _ _ (by omega) f2
   have y3 : Y[N + 3]? = some (some LY) := by rw [eY,qF (by omega)]
   have sY : aH h Y := ⟨by have := s2.1; omega,fun i b e => old i b (by have := aQ e; omega) (s2.2 _ _ e)⟩
   have kY : bK C H2 Y := ⟨by omega,fun i b hi e => old i b (fun e => hi (by rw [eC,e]; simp)) e⟩
   rw [← eY]
   simp only [go_sem,y0]
   refine aI (hf x (hr x (by simp)) Y sY) ?_
   cases hP : P x with
   | true =>
    have y5 : ∀ b,(Y.set (N + 1) b)[N + 2]? = some (some (.row [.bool false])) := fun b => by rw [qB (by omega)]; exact y2
    have y6 : ∀ b b',((Y.set (N + 1) b).set (N + 2) b')[N + 3]? = some (some LY) := fun b b' => by rw [qB (by omega),qB (by omega)]; exact y3
    simp only [go_sem,y1,y5,y6]
    refine ⟨⟨_,_,by rw [hLY]⟩,?_⟩
    refine ⟨((kY.set (.inl (by rw [eC]; simp))).set (.inl (by rw [eC]; simp))).set (.inl (by rw [eC]; simp)),.inr fun H4 k4 => ?_⟩
    subst hO
    have z1 := k4.at_ (N + 1) (.row [AV.int IntKind.i64 x]) (by simp) (by rw [qB (by omega),qB (by omega),qF (by omega)])
    have z2 := k4.at_ (N + 2) (.row [AV.bool true]) (by simp) (by rw [qB (by omega),qF (by simp; omega)])
    have z3 := k4.at_ (N + 3) _ (by simp) (qF (by simp; omega))
    have z4 : (H4.set (N + 3) none)[N + 1]? = some (some (.row [AV.int IntKind.i64 x])) := by rw [qB (by omega)]; exact z1
    have z5 : (H4.set (N + 3) none)[N + 2]? = some (some (.row [AV.bool true])) := by rw [qB (by omega)]; exact z2
    have s4 : aH h H4 := ⟨by have := k4.le; simp at this; have := sY.1; omega,fun i b e => k4.at_ _ _ (by simp) (by
     have := aQ e
     rw [qB (by omega),qB (by omega),qB (by omega)]; exact sY.2 _ _ e)⟩
    simp only [go_sem,z3,z4,z5]
    exact ⟨s4.setR (by omega),by rw [hfd,List.find?_cons_of_pos hP]; rfl⟩
   | false =>
    simp only [go_sem,y3]
    refine ⟨⟨_,_,by rw [hLY]⟩,?_⟩
    refine ⟨kY.set (.inl (by rw [eC]; simp)),.inl ?_⟩
    subst hO
    refine ih (fun d hd => hr d (by simp [hd])) (by rw [hfd,List.find?_cons_of_neg (by simp [hP])]) _ (sY.setR (by omega)) ?_ ?_ ?_ ?_
    · rw [qB (by omega)]; exact y0
    · rw [qB (by omega)]; exact y1
    · rw [qB (by omega)]; exact y2
    · rw [qF (by omega),hLB,← eN]
 refine claim _ (fun _ hd => hd) rfl G0 (eG0 ▸ aH.refl.app) ?_ ?_ ?_ ?_
 all_goals
  rw [eG0,eN,qI (by omega)]; simp
theorem slO_i {n0 : Nat} {ys : List Int} {H : aA} (e : H[n0]? = some (blO ys)) : SlI w0 H (slO n0 ys) ys := by
 unfold slO
 split
 · rename_i h0; subst h0; exact .inl ⟨rfl,rfl⟩
 · rename_i h0
   rw [blO,if_neg h0] at e
   have e2 : iis ys = (ys.map fun z => [AV.int .i64 z]).flatten := zJ ys
   have := mQ (w0 := w0) (H := H) (es := 1) (io := n0) (full := false) (rows := ys.map fun z => [AV.int .i64 z]) (by rw [← e2]; exact e) (fun c hc => by obtain ⟨x,_,rfl⟩ := List.mem_map.1 hc; rfl)
   rwa [List.length_map] at this
theorem uD (o : Option Int) (N : Nat) : (fB o).bdd N := by unfold fB; split <;> simp [AV.bdd,AV.bdds]
theorem sV (l : List aT) : (dB l).length ≤ l.length := by
 have := sS (l := l.map (·.cl))
 simpa [dB] using this
theorem zV (bs : Int) {v : AV} {l : List aT} (hv : Sl w0 h 4 v (l.map aT.c)) (hn : l.length ≤ 12) : aU Tryz.prog w0 70 [v,.int .i64 bs] h (fB (gC l bs)) h := by
 refine cN (uD _ _) (bB aV vV aBf aBe (qE rfl) fun hb ha => aY ?_)
 have o := Sl.one hv
 simp only [go_sem,mf70,o.1,o.2]
 refine aX (ACall.vc (first := []) (args := [v]) (nZ hv.app hn)) ?_
 rintro _ _ ⟨rfl,rfl⟩
 simp only [go_sem]
 obtain ⟨X,eX⟩ : ∃ X,X = h ++ [some (Blk.row [v]),some (.row [.int .i64 bs]),blO (dB l),some (.row [slO (h.length + 2) (dB l)])] := ⟨_,rfl⟩
 rw [← eX]
 have sX : aH h X := eX ▸ aH.refl.app
 have x0 : X[h.length]? = some (some (.row [v])) := by rw [eX,qI (by omega)]; simp
 have x1 : X[h.length + 1]? = some (some (.row [.int .i64 bs])) := by rw [eX,qI (by omega)]; simp
 have x2 : X[h.length + 2]? = some (blO (dB l)) := by rw [eX,qI (by omega)]; simp
 have x3 : X[h.length + 3]? = some (some (.row [slO (h.length + 2) (dB l)])) := by rw [eX,qI (by omega)]; simp
 have hl := sV l
 have hfirst := rW (w0 := w0) (h := X) (p := .own (h.length + 3) 0) (v := slO (h.length + 2) (dB l)) (fv := .fn (.func 118) [] [.ptr (.own h.length 0),.ptr (.own (h.length + 1) 0)]) (l := dB l) (qU l bs)
  (by simp [rd,x3]) (slO_i x2) (by omega) rfl fun d hd H sH => aU.vc (P := Tryz.prog) (first := []) (capt := [.ptr (.own h.length 0),.ptr (.own (h.length + 1) 0)]) (uH d bs (v := v) (by simp [rd,sH.2 _ _ x0]) (by simp [rd,sH.2 _ _ x1]) (hv.sub (sX.trans sH)) (by omega))
 refine aI hfirst.v ?_
 rw [show (dB l).find? (qU l bs) = gC l bs from rfl]
 cases gC l bs with
 | none =>
  simp only [go_sem,fB]
  exact sX
 | some t =>
  simp only [go_sem,fB]
  exact sX
theorem bK.setN {o : Nat} {A B : aA} (k : bK [o] A B) : aH (A.set o none) B := ⟨by simpa using k.le,fun i b e => by
 by_cases hi : o = i
 · subst hi
   have := aQ e
   rw [List.length_set] at this
   rw [qF this] at e; cases e
 · rw [qB hi] at e
   exact k.at_ _ _ (by simp only [List.mem_singleton]; exact fun x => hi x.symm) e⟩
structure gF (h0 H : aA) (o : Nat) (ov : AV) (out : List Int) : Prop where
 keep : bK [o] h0 H
 box : H[o]? = some (some (.row [ov]))
 val : (ov = .nilS ∧ out = []) ∨ ∃ io c,h0.length ≤ io ∧ ov = .sl (.own io 0) out.length 1 false ∧ H[io]? = some (some (.row c)) ∧ out.length ≤ c.length ∧ c.take out.length = eO out
theorem gF.len {h0 H : aA} {o : Nat} {ov : AV} {out : List Int} (a : gF h0 H o ov out) : gM ov = some (.int .i64 out.length) := by
 rcases a.val with ⟨rfl,rfl⟩ | ⟨io,c,_,rfl,_⟩ <;> rfl
theorem gF.slI {h0 H : aA} {o : Nat} {ov : AV} {out : List Int} (a : gF h0 H o ov out) : SlI w0 H ov out := by
 rcases a.val with ⟨rfl,rfl⟩ | ⟨io,c,h1,rfl,h3,h4,h5⟩
 · exact .inl ⟨rfl,rfl⟩
 · refine .inr ⟨_,false,⟨1,by rw [List.length_map],gB⟩,by simp only [Pl.bdd]; exact aQ h3,fun j d hd => ?_⟩
   rw [List.getElem?_map,qD] at hd
   obtain ⟨x,hx,rfl⟩ := hd
   have hj := aQ hx
   simp only [Pl.add,rdn,h3]
   rw [if_pos (by omega)]
   have : (c.take out.length)[j]? = (eO out)[j]? := by rw [h5]
   rw [List.getElem?_take,if_pos hj,aBY,hx] at this
   have hc : j < c.length := by omega
   rw [qA hc] at this
   simp only [Option.map_some,Option.some.injEq] at this
   simp only [Nat.zero_add,Nat.mul_one,List.drop_eq_getElem_cons hc,this,List.take_succ_cons,List.take_zero]
theorem gF.app {h0 H L : aA} {o : Nat} {ov : AV} {out : List Int} (a : gF h0 H o ov out) : gF h0 (H ++ L) o ov out := by
 refine ⟨a.keep.app,aB a.box,?_⟩
 rcases a.val with h1 | ⟨io,c,h1,h2,h3,h4,h5⟩
 · exact .inl h1
 · exact .inr ⟨io,c,h1,h2,aB h3,h4,h5⟩
theorem gF.more {h0 H : aA} {o k : Nat} {ov : AV} {out : List Int} (a : gF h0 H o ov out) (ho : o < h0.length) {f : Bool} {x : Int} (hk : H[k]? = some (some (.row [.int .i64 x]))) (hn : out.length ≤ 1000) :
 ∃ G,eQ w0 H 1 8 ov (.sl (.own k 0) 1 1 f) = some (.sl (.own H.length 0) (out.length + 1) 1 false,G) ∧ G[o]? = some (some (.row [ov])) ∧ G.length = H.length + 1 ∧
  gF h0 (G.set o (some (.row [.sl (.own H.length 0) (out.length + 1) 1 false]))) o (.sl (.own H.length 0) (out.length + 1) 1 false) (out ++ [x]) := by
 have r1 : rdn w0 H (.own k 0) (1 * 1) = some [.int .i64 x] := by simp [rdn,hk]
 have hkl := a.keep.le
 rcases a.val with ⟨rfl,rfl⟩ | ⟨io,c,h1,rfl,h3,h4,h5⟩
 · refine ⟨H ++ [some (.row [.int .i64 x])],?_,aB a.box,by simp,(a.keep.app).set (.inl (by simp)),by rw [qF (by simp; omega)],.inr ⟨H.length,[.int .i64 x],by omega,rfl,?_,by simp,rfl⟩⟩
   · simp only [eQ,gG,gB,if_true,r1,Option.map_some,Option.bind_some]
     rw [if_neg (by omega),if_pos ⟨by omega,rfl⟩]
     simp [fO]
   · rw [qB (by omega),qI (Nat.le_refl _),Nat.sub_self]; rfl
 · have hio := aQ h3
   have r2 : rdn w0 H (.own io 0) (out.length * 1) = some (eO out) := by
    simp only [rdn,h3]
    rw [if_pos (by omega),List.drop_zero,Nat.mul_one,h5]
   rw [Nat.mul_one] at r2
   refine ⟨H.set io none ++ [some (.row (eO out ++ [.int .i64 x]))],?_,aB (by rw [qB (by omega)]; exact a.box),by simp,?_,by rw [qF (by simp; omega)],.inr ⟨H.length,eO out ++ [.int .i64 x],by omega,by simp,?_,by simp,?_⟩⟩
   · simp only [eQ,gG,gB,if_true,r1,Option.map_some,Option.bind_some]
     rw [if_neg (by omega),if_pos ⟨trivial,by omega,rfl⟩]
     simp [r2]
   · exact ((a.keep.set (.inr h1)).app).set (.inl (by simp))
   · rw [qB (by omega),qI (by simp)]; simp
   · rw [List.take_of_length_le (by simp)]; simp [eO]
theorem gF.less {h0 H : aA} {o : Nat} {ov : AV} {out : List Int} {x : Int} (a : gF h0 H o ov (out ++ [x])) (ho : o < h0.length) : ∃ io,ov = .sl (.own io 0) (out.length + 1) 1 false ∧ gF h0 (H.set o (some (.row [.sl (.own io 0) out.length 1 false]))) o (.sl (.own io 0) out.length 1 false) out := by
 have hkl := a.keep.le
 rcases a.val with ⟨_,h1⟩ | ⟨io,c,h1,h2,h3,h4,h5⟩
 · simp at h1
 · simp only [List.length_append,List.length_singleton] at h2 h4 h5
   refine ⟨io,h2,a.keep.set (.inl (by simp)),by rw [qF (by omega)],.inr ⟨io,c,h1,rfl,by rw [qB (by omega)]; exact h3,by omega,?_⟩⟩
   have := congrArg (List.take out.length) h5
   rw [List.take_take,Nat.min_eq_left (by omega)] at this
   rw [this]; simp [eO]
structure BSt (w0 : World) (h0 : aA) (o s b f : Nat) (v : AV) (l : List aT) (bs : Int) : Prop where
 ol : o < h0.length
 so : s ≠ o
 bo : b ≠ o
 fo : f ≠ o
 bs' : h0[s]? = some (some (.row [v]))
 bb : h0[b]? = some (some (.row [.int .i64 bs]))
 bf : h0[f]? = some (some (.row [.fn (.func 71) [] [.ptr (.own o 0),.ptr (.own s 0),.ptr (.own b 0),.ptr (.own f 0)]]))
 hv : Sl w0 (h0.set o none) 4 v (l.map aT.c)
theorem aAc {h0 : aA} {o s b f : Nat} {v : AV} {l : List aT} {bs : Nat} (st : BSt w0 h0 o s b f v l bs) (hn : l.length ≤ 12) (hbs : bs ≤ 6) :
 ∀ (k : Nat) (out : List Int) (H : aA) (ov : AV),out.length + k = l.length → gF h0 H o ov out →
  ACall Tryz.prog w0 71 [.ptr (.own o 0),.ptr (.own s 0),.ptr (.own b 0),.ptr (.own f 0)] H fun y H' => ∃ ov',match bsD l bs k out with
   | some x => y = .bool true ∧ gF h0 H' o ov' x
   | none => y = .bool false ∧ gF h0 H' o ov' out := by
 intro k
 induction k with
 | zero =>
  intro out H ov hk hO
  refine bB aV oT tV tU (qE rfl) fun hb ha => aY ?_
  have e1 : ∀ L,(H ++ L)[o]? = some (some (.row [ov])) := fun L => aB hO.box
  have e2 : ∀ L,(H ++ L)[s]? = some (some (.row [v])) := fun L => aB (hO.keep.at_ _ _ (by simp [st.so]) st.bs')
  have hlen : gM v = some (.int .i64 l.length) := by have := st.hv.use.1; rwa [List.length_map] at this
  have e3 : (out.length : Int) = l.length := by omega
  simp only [go_sem,mf71,e1,e2,hO.len,hlen,e3]
  exact ⟨ov,hO.app⟩
 | succ k ih =>
  intro out H ov hk hO
  refine bB aV oT tV tU (qE rfl) fun hb ha => aY ?_
  have e1 : ∀ L,(H ++ L)[o]? = some (some (.row [ov])) := fun L => aB hO.box
  have e2 : ∀ L,(H ++ L)[s]? = some (some (.row [v])) := fun L => aB (hO.keep.at_ _ _ (by simp [st.so]) st.bs')
  have e4 : ∀ L,(H ++ L)[b]? = some (some (.row [.int .i64 bs])) := fun L => aB (hO.keep.at_ _ _ (by simp [st.bo]) st.bb)
  have hlen : gM v = some (.int .i64 l.length) := by have := st.hv.use.1; rwa [List.length_map] at this
  have e3 : ¬ (out.length : Int) = l.length := by omega
  simp only [go_sem,mf71,e1,e2,e4,hO.len,hlen,e3]
  refine eL (S := Nat × aA × AV) (F := fun t => [(0,.ptr (.own o 0)),(1,.ptr (.own s 0)),(3,.ptr (.own f 0)),(5,.int .i64 out.length),(15,.int .i64 bs),(16,.int .i64 t.1)]) (H := fun t => t.2.1) (meas := fun t => bs - t.1)
   (Inv := fun t => t.1 ≤ bs ∧ gF h0 t.2.1 o t.2.2 out ∧ bsD l bs (k + 1) out = ((List.range bs).drop t.1).findSome? fun c : Nat => if zP l out (c : Int) then bsD l bs k (out ++ [(c : Int)]) else none) (0,H,ov) ⟨Nat.zero_le _,hO,rfl⟩ rfl (by simp) ?_
  rintro ⟨c,G,gv⟩ ⟨hc,gO,hG⟩ ih2
  simp only at hc gO hG ih2 ⊢
  refine bF aV aEE [0,1,3,5,15,16] L71_1.eq_1 ?_
  by_cases hcl : c < bs
  · have e5 : (c : Int) < bs := by omega
    rw [List.drop_eq_getElem_cons (by simpa using hcl),List.findSome?_cons,List.getElem_range] at hG
    have g1 : ∀ L,(G ++ L)[o]? = some (some (.row [gv])) := fun L => aB gO.box
    have g2 : ∀ L,(G ++ L)[s]? = some (some (.row [v])) := fun L => aB (gO.keep.at_ _ _ (by simp [st.so]) st.bs')
    have g1' := g1 []; have g2' := g2 []
    rw [List.append_nil] at g1' g2'
    have hvG := st.hv.sub gO.keep.setN
    obtain ⟨_,q,hix,hrow,_⟩ := hvG.use
    rw [List.length_map] at hix
    simp only [go_sem,e5,g1,g1',gO.len]
    refine mC (fun j => [(0,.ptr (.own o 0)),(1,.ptr (.own s 0)),(3,.ptr (.own f 0)),(5,.int .i64 out.length),(6,.int .i64 c),(15,.int .i64 bs),(16,.int .i64 c),(19,gv),(20,.int .i64 out.length),(21,.int .i64 j)]) (fun j => (!(decide (out.getD j 0 = (c : Int)) && lZ (pU l j) (pU l out.length))) = true) out.length rfl (fun j hj hall ih3 => ?_) (fun hall => ?_)
    · refine bF aV yC [0,1,3,5,6,15,16,19,20,21] L71_0.eq_1 ?_
      have e6 : (j : Int) < out.length := by omega
      obtain ⟨pp,i1,r1,r1'⟩ := SlI.at_ (gO.slI (w0 := w0)) hj
      have hjl : j < l.length := by omega
      have hol : out.length < l.length := by omega
      have x1 := hix j hjl
      have x2 := hix out.length hol
      have y1 : ∀ L,rdn w0 (G ++ L) (q.add (j * 4)) 4 = some l[j].c := fun L => cK (hrow j _ (fG hjl))
      have y2 : ∀ L,rdn w0 (G ++ L) (q.add (out.length * 4)) 4 = some l[out.length].c := fun L => cK (hrow _ _ (fG hol))
      have y1' := hrow j _ (fG hjl)
      have y2' := hrow _ _ (fG hol)
      have s1 : pU l j = l[j] := by rw [pU,fL hjl]
      have s2 : pU l out.length = l[out.length] := by rw [pU,fL hol]
      rw [fL hj,s1,s2] at ih3
      have nofit : out[j] = (c : Int) → lZ l[j] l[out.length] = true → zP l out c = false := fun a b => by
       rw [zP,List.all_eq_false]
       refine ⟨j,List.mem_range.2 hj,?_⟩
       rw [fL hj,s1,s2]; simp [a,b]
      by_cases q1 : out[j] = (c : Int)
      · simp only [go_sem,e6,i1,r1,r1',q1,g2,g2',x1,x2,y1,y2,y1',y2']
        refine aI (meet_c l[j] l[out.length]).v ?_
        cases q2 : lZ l[j] l[out.length] with
        | true =>
         simp only [go_sem]
         refine ⟨(by unfold I64; omega),ih2 (c + 1,G,gv) ⟨by simp only; omega,gO,?_⟩ (by simp only; omega)⟩
         rw [hG,nofit q1 q2]; rfl
        | false =>
         simp only [go_sem]
         exact ⟨(by unfold I64; omega),ih3 (by simp [q2])⟩
      · simp only [go_sem,e6,i1,r1,r1',q1]
        exact ⟨(by unfold I64; omega),ih3 (by simp [q1])⟩
    · refine bF aV yC [0,1,3,5,6,15,16,19,20,21] L71_0.eq_1 ?_
      have e6 : ¬ (out.length : Int) < out.length := by omega
      have hfit : zP l out (c : Int) = true := by rw [zP,List.all_eq_true]; exact fun j hj => hall j (List.mem_range.1 hj)
      rw [hfit,if_pos rfl] at hG
      simp only [go_sem,e6,g1,g1']
      have hO1 : gF h0 (G ++ [some (.row [.int .i64 c])]) o gv out := gO.app
      obtain ⟨G1,a1,a2,a3,a4⟩ := hO1.more (w0 := w0) st.ol (k := G.length) (f := true) (x := c) (by rw [qI (Nat.le_refl _),Nat.sub_self]; rfl) (by omega)
      rw [a1]
      obtain ⟨G2,eG2⟩ : ∃ G2,G2 = G1.set o (some (.row [.sl (.own (G ++ [some (Blk.row [AV.int .i64 c])]).length 0) (out.length + 1) 1 false])) := ⟨_,rfl⟩
      rw [← eG2] at a4
      have b1 : G2[f]? = _ := a4.keep.at_ _ _ (by simp [st.fo]) st.bf
      have bl : (G ++ [some (Blk.row [AV.int .i64 c])]).length = G.length + 1 := by simp
      rw [bl] at eG2 a4 ⊢
      simp only [go_sem,a2]
      rw [← eG2]
      simp only [go_sem,b1]
      refine aX (ACall.vc (first := []) (args := []) (capt := [.ptr (.own o 0),.ptr (.own s 0),.ptr (.own b 0),.ptr (.own f 0)]) (ih (out ++ [(c : Int)]) G2 _ (by simp; omega) a4)) ?_
      rintro y H' ⟨ov',hy⟩
      cases hbs : bsD l bs k (out ++ [(c : Int)]) with
      | some x =>
       rw [hbs] at hy hG
       obtain ⟨rfl,hy⟩ := hy
       simp only [go_sem]
       rw [hG]
       exact ⟨ov',hy⟩
      | none =>
       rw [hbs] at hy hG
       obtain ⟨rfl,hy⟩ := hy
       obtain ⟨io,rfl,hl⟩ := hy.less st.ol
       have c1 : ∀ L,(H' ++ L)[o]? = _ := fun L => aB (k := L) hy.box
       simp only [go_sem,hy.box,c1,nat_ix]
       refine ⟨by omega,(by unfold I64; omega),?_⟩
       rw [Nat.sub_zero,Bool.false_and]
       exact ih2 (c + 1,_,_) ⟨by simp only; omega,hl,by rw [hG]⟩ (by simp only; omega)
  · have e5 : ¬ (c : Int) < bs := by omega
    obtain rfl : c = bs := by omega
    rw [List.drop_of_length_le (by simp),List.findSome?_nil] at hG
    simp only [go_sem,e5]
    rw [hG]
    exact ⟨gv,gO⟩
def hU (w0 : World) (H : aA) (y : AV) (l : List aT) (bs : Int) : Prop :=
 if cY l bs = 0 then match gC l bs with
  | some _ => y = .tup [.nilS,.int .i64 5]
  | none => ∃ lv,y = .tup [lv,.int .i64 0] ∧ SlI w0 H lv ((bsD l bs.toNat l.length []).getD [])
 else y = .tup [.nilS,.int .i64 (cY l bs)]
theorem pR (bs : Int) {v : AV} {l : List aT} (hv : Sl w0 h 4 v (l.map aT.c)) : ACall Tryz.prog w0 17 [v,.int .i64 bs] h fun y H => aH h H ∧ hU w0 H y l bs := by
 refine bB aV vY aBl aBk (qE rfl) fun hb ha => aY ?_
 have o := Sl.one hv
 simp only [go_sem,mf17,o.1,o.2]
 refine aI (aAv bs hv.app).v ?_
 by_cases e : cY l bs = 0
 · obtain ⟨h12,hbs,hst⟩ := yO e
   simp only [go_sem,e]
   refine aI (zV bs hv.app h12).v ?_
   cases e2 : gC l bs with
   | some t =>
    simp only [go_sem,fB]
    exact ⟨aH.refl.app,by rw [hU,if_pos e,e2]⟩
   | none =>
    simp only [go_sem,fB]
    obtain ⟨n,rfl⟩ : ∃ n : Nat,bs = n := ⟨bs.toNat,by omega⟩
    obtain ⟨X,eX⟩ : ∃ X,X = h ++ [some (Blk.row [v]),some (.row [.int .i64 n]),some (.row [.nilS]),some (.row [.fn (.func 71) [] [.ptr (.own (h.length + 2) 0),.ptr (.own h.length 0),.ptr (.own (h.length + 1) 0),.ptr (.own (h.length + 3) 0)]])] := ⟨_,rfl⟩
    have sX : aH h X := eX ▸ aH.refl.app
    have x0 : X[h.length]? = some (some (.row [v])) := by rw [eX,qI (by omega)]; simp
    have x1 : X[h.length + 1]? = some (some (.row [.int .i64 n])) := by rw [eX,qI (by omega)]; simp
    have x2 : X[h.length + 2]? = some (some (.row [.nilS])) := by rw [eX,qI (by omega)]; simp
    have x3 : X[h.length + 3]? = some (some (.row [.fn (.func 71) [] [.ptr (.own (h.length + 2) 0),.ptr (.own h.length 0),.ptr (.own (h.length + 1) 0),.ptr (.own (h.length + 3) 0)]])) := by rw [eX,qI (by omega)]; simp
    have st : BSt w0 X (h.length + 2) h.length (h.length + 1) (h.length + 3) v l n := ⟨aQ x2,by omega,by omega,by omega,x0,x1,x3,hv.sub (sX.setR (by omega) |> fun t => ⟨by simpa using t.1,fun i b e => t.2 i b e⟩)⟩
    rw [← eX]
    refine aX (ACall.vc (first := []) (args := []) (capt := [.ptr (.own (h.length + 2) 0),.ptr (.own h.length 0),.ptr (.own (h.length + 1) 0),.ptr (.own (h.length + 3) 0)]) (aAc st h12 (by omega) l.length [] X .nilS (by simp) ⟨bK.refl,x2,.inl ⟨rfl,rfl⟩⟩)) ?_
    rintro y H ⟨ov,hy⟩
    have fin : ∀ x,(bsD l n l.length []).getD [] = x → gF X H (h.length + 2) ov x → aH h H ∧ hU w0 H (.tup [ov,.int .i64 0]) l n := fun x ex hy => by
     refine ⟨⟨Nat.le_trans sX.1 hy.keep.le,fun i b e => hy.keep.at_ _ _ (by have := aQ e; simp; omega) (sX.2 _ _ e)⟩,?_⟩
     rw [hU,if_pos e,e2]
     exact ⟨ov,rfl,by rw [show (n : Int).toNat = n from rfl,ex]; exact hy.slI⟩
    have hbox : H[h.length + 2]? = some (some (.row [ov])) := by
     cases hB : bsD l n l.length [] with
     | some x => rw [hB] at hy; exact hy.2.box
     | none => rw [hB] at hy; exact hy.2.box
    have hbL : ∀ L,(H ++ L)[h.length + 2]? = some (some (.row [ov])) := fun L => aB hbox
    simp only [go_sem,hbox,hbL]
    cases hB : bsD l n l.length [] with
    | some x => rw [hB] at hy fin; exact fin x rfl hy.2
    | none => rw [hB] at hy fin; exact fin [] rfl hy.2
 · simp only [go_sem,e]
   exact ⟨aH.refl.app,by rw [hU,if_neg e]⟩
theorem lS (a b : Int) : aU Tryz.prog w0 74 [.agg [.int .i64 a,.int .i64 b]] h (.bool (fH a b 0 1440)) h := by
 refine aO aV aDc mf74_b mf74_g (qE rfl) (by simp [AV.bdd,AV.bdds]) fun hb ha => aY ?_
 simp only [go_sem,mf74]
 exact ⟨fun x => ⟨fun y => by simp [fH,x,y],fun y => by simp [fH,x,y]⟩,fun x => by simp [fH,x]⟩
theorem aAL {v : AV} {l : List aT} (hv : Sl w0 h 4 v (l.map aT.c)) (hn : l.length < 1000000) : aU Tryz.prog w0 19 [v] h (.bool (l.all cW)) h := by
 refine aO aV aDo mf19_b mf19_g (qE rfl) (by simp [AV.bdd,AV.bdds]) fun hb ha => aY ?_
 obtain ⟨hlen,q,hix,hrow,_⟩ := hv.use
 rw [List.length_map] at hlen hix
 have vb := hv.bdd (Nat.le_refl _)
 simp only [go_sem,mf19]
 refine mC (fun j => [(0,v),(3,.int .i64 j)]) (fun j => cW (l.getD j ⟨0,0,0,0⟩) = true) l.length rfl (fun j hj hall ih => ?_) (fun hall => ?_)
 · refine bF aV yF [0,3] L19_0.eq_1 ?_
   have e1 : (j : Int) < l.length := by omega
   have e2 := hix j hj
   have e3 : ∀ L,rdn w0 (h ++ L) (q.add (j * 4)) 4 = some l[j].c := fun L => cK (hrow j _ (fG hj))
   have e3' := hrow j _ (fG hj)
   obtain ⟨r,hr⟩ : ∃ r,r = l[j] := ⟨_,rfl⟩
   rw [fL hj,← hr] at ih
   have no : cW r = false → l.all cW = false := fun x => by
    rw [List.all_eq_false]; exact ⟨_,qG hj,by rw [← hr,x]; simp⟩
   simp only [go_sem,hlen,e1,e2,e3,e3',← hr]
   refine aI (lS r.cl r.ch).v ?_
   cases c1 : fH r.cl r.ch 0 1440 with
   | false => simp only [go_sem]; rw [no (by simp [cW,c1])]
   | true =>
   simp only [go_sem]
   refine aI (lS r.gl r.gh).v ?_
   cases c2 : fH r.gl r.gh 0 1440 with
   | false => simp only [go_sem]; rw [no (by simp [cW,c2])]
   | true =>
   simp only [go_sem]
   refine ⟨fun c3 => ⟨fun c4 => ?_,fun c4 => ⟨(by unfold I64; omega),fJ 0 hb (by simp [HBs]) (by simp [cR,cS,dV,dW,fD,dN,AV.bdds,AV.bdd,Pl.bdd,cC]; exact vb) ?_⟩⟩,fun c3 => ?_⟩
   · rw [no (by simp [cW]; omega)]
   · simpa using ih (by simp only [cW,c1,c2,Bool.true_and,Bool.and_eq_true,decide_eq_true_eq]; omega)
   · rw [no (by simp [cW]; omega)]
 · refine bF aV yF [0,3] L19_0.eq_1 ?_
   have e1 : ¬ (l.length : Int) < l.length := by omega
   have : l.all cW = true := by rw [← fX ⟨0,0,0,0⟩,List.all_eq_true]; exact fun j hj => hall j (List.mem_range.1 hj)
   simp only [go_sem,hlen,e1]
   rw [this]
end Go.Proofs.Ab
namespace Go.Proofs.Ab
open Go Go.Proofs
variable {w : World} {h : aA} {cs : List Value}
theorem aAu {v : Value} (g : Gd w (.sl mF .nil) [v]) : ∃ l : List aT,Sl w h 4 (inj v) (l.map aT.c) ∧ l.length ≤ 9223372036854775807 := by
 obtain ⟨_,_,e,h,rfl⟩ := g
 cases e
 exact qM aT.c rfl h fun _ g => by
  obtain ⟨a,b,c,d,e,_⟩ := xO g
  exact ⟨⟨a,b,c,d⟩,e⟩
end Go.Proofs.Ab
namespace Go.Proofs.Ab
open Go Go.Proofs
variable {w0 : World} {h : aA}
attribute [local irreducible] ACall bC cT aU cV rvC lp rg dr ex un rv
theorem aAK {r : Option Nat} {nt Z : Nat} {Q : Exit → Fr → aA → Prop} {l : List MIx} {d : Option Nat} {f : AV} {as_ : List AV} {a t : It} {fr : Fr} {H : aA} (R : Fr → aA → Prop) (tail : ∀ fr H,R fr H → un Tryz.prog w0 r nt Z Q .normal [t] fr H)
 (main : ∀ T,(∀ fr H,R fr H → un Tryz.prog w0 r nt Z Q .normal [T] fr H) → rvC Tryz.prog w0 r nt Z Q f as_ d l [a,T] fr H) : rvC Tryz.prog w0 r nt Z Q f as_ d l [a,t] fr H := main t tail
def cI (s : Int) (r : aK) : aK := ⟨r.x,r.y,r.s + min s (1000000 - r.s)⟩
theorem aAs {s : Int} (hs : 0 ≤ s) {r : aK} (h : aS r = true) : aS (cI s r) = true := by
 rw [show aS (cI s r) = (inB r.x (-100) 100 && (inB r.y (-100) 100 && ((decide (r.x ≠ 0) || decide (r.y ≠ 0)) && inB (r.s + min s (1000000 - r.s)) 0 1000000))) from rfl]
 simp only [aS,inB,Bool.and_eq_true,decide_eq_true_eq] at h ⊢
 refine ⟨h.1,h.2.1,h.2.2.1,?_,?_⟩ <;> omega
theorem kQ {s : Int} (hs : 0 ≤ s) (d : Int × Int) : ∀ {l : List aK},l.all aS = true → bL l d ≤ bL (l.map (cI s)) d
 | [],_ => by simp [bL]
 | r :: l,h => by
  simp only [List.all_cons,Bool.and_eq_true] at h
  have ih := kQ hs d h.2
  have h1 := h.1
  simp only [aS,inB,Bool.and_eq_true,decide_eq_true_eq] at h1
  have : r.s * max 0 (bT d (bI r)) ≤ (r.s + min s (1000000 - r.s)) * max 0 (bT d (bI r)) := Int.mul_le_mul_of_nonneg_right (by omega) (by omega)
  simp only [List.map_cons,bL,cI,bI] at this ih ⊢
  omega
theorem pT {s : Int} (hs : 0 ≤ s) {l : List aK} {w : dL} {one : aK} (hl : l.all aS = true) (ho : aS one = true) (hH : fS l w = none) : fS (l.map (cI s) ++ [one]) w = none := by
 rw [uB] at hH ⊢
 intro f hf d _
 have h1 := aAW hl (hH f hf) d
 have h2 := kQ hs d hl
 have h3 : 0 ≤ bL [one] d := by
  have h1 := ho
  simp only [aS,inB,Bool.and_eq_true,decide_eq_true_eq] at h1
  simp only [bL]
  have := Int.mul_nonneg h1.2.2.2.1 (show 0 ≤ max 0 (bT d (bI one)) by omega)
  omega
 rw [nH]; omega
theorem uI {l : List aT} {n : Int} (h : gC l n = none) : gC l (n + 1) = none := by
 simp only [gC,List.find?_eq_none,qU,decide_eq_true_eq] at h ⊢
 intro t ht
 have := h t ht; omega
theorem uY {v sv : AV} {l : List aK} {ss : List aT} (w : dL) (one : aK) (str bs : Int) (hstr : I64 str) (hv : Sl w0 h 3 v (l.map aK.c)) (hsv : Sl w0 h 4 sv (ss.map aT.c)) (hn : l.length ≤ 9223372036854775807) (hsn : ss.length ≤ 9223372036854775807) :
 aU Tryz.prog w0 7 [v,.agg w.c,.agg one.c,.int .i64 str,sv,.int .i64 bs] h (.bool true) h := by
 refine cN trivial (bB aV mf7_ok mf7_b mf7_g (qE rfl) fun hb ha => aY ?_)
 have hlen : gM v = some (.int .i64 l.length) := by have := hv.use.1; rwa [List.length_map] at this
 have hlenS : gM sv = some (.int .i64 ss.length) := by have := hsv.use.1; rwa [List.length_map] at this
 simp only [go_sem,mf7]
 refine aAK (fun fr G => aH h G ∧ fr.get 4 = sv ∧ fr.get 5 = .int .i64 bs) ?_ ?_
 · rintro fr G ⟨sG,f4,f5⟩
   by_cases q1 : (ss.length : Int) > 9
   · simp only [go_sem,f4,hlenS,q1]
     refine aI jS.v ?_
     simp only [go_sem]
     exact sG
   simp only [go_sem,f4,f5,hlenS,q1]
   refine aI (aAL (hsv.sub sG) (by omega)).v ?_
   cases hl : ss.all cW with
   | false =>
    simp only [go_sem]
    refine aI jS.v ?_
    simp only [go_sem]
    exact sG
   | true =>
   simp only [go_sem,f4,f5]
   repeat' (refine And.intro (fun _ => ?_) (fun _ => ?_))
   all_goals first | (refine aI jS.v ?_; simp only [go_sem]; exact sG) | skip
   rename_i p1 p2
   obtain ⟨n,rfl⟩ : ∃ n : Nat,bs = n := ⟨bs.toNat,by omega⟩
   have e0 : cY ss n = 0 := by
    rw [cY,if_neg (by omega),hl,show inB (n : Int) 0 6 = true by simp only [inB,Bool.and_eq_true,decide_eq_true_eq]; omega]; rfl
   have e1 : cY ss (n + 1 : Int) = 0 := by
    rw [cY,if_neg (by omega),hl,show inB (n + 1 : Int) 0 6 = true by simp only [inB,Bool.and_eq_true,decide_eq_true_eq]; omega]; rfl
   refine aX (ACall.vc (first := []) (args := [sv,.int .i64 n]) (pR n (hsv.sub sG))) ?_
   rintro y H ⟨sH,hy⟩
   have s2 := sG.trans sH
   rw [hU,if_pos e0] at hy
   cases hcr : gC ss n with
   | some t =>
    rw [hcr] at hy
    subst hy
    simp only [go_sem,f4,f5]
    refine ⟨(by unfold I64; omega),?_⟩
    refine aX (ACall.vc (first := []) (args := [sv,.int .i64 (n + 1)]) (pR (n + 1) (hsv.sub s2))) ?_
    rintro z H2 ⟨sH2,hz⟩
    rw [hU,if_pos e1] at hz
    obtain ⟨a,b,rfl⟩ : ∃ a b,z = .tup [a,.int .i64 b] := by
     split at hz
     · exact ⟨_,_,hz⟩
     · obtain ⟨lv,hz,_⟩ := hz; exact ⟨_,_,hz⟩
    simp only [go_sem]
    refine aI jS.v ?_
    simp only [go_sem]
    exact s2.trans sH2
   | none =>
    rw [hcr] at hy
    obtain ⟨lv,rfl,_⟩ := hy
    simp only [go_sem,f4,f5]
    refine ⟨(by unfold I64; omega),?_⟩
    refine aX (ACall.vc (first := []) (args := [sv,.int .i64 (n + 1)]) (pR (n + 1) (hsv.sub s2))) ?_
    rintro z H2 ⟨sH2,hz⟩
    rw [hU,if_pos e1,uI hcr] at hz
    obtain ⟨lv2,rfl,_⟩ := hz
    simp only [go_sem]
    refine aI jS.v ?_
    simp only [go_sem]
    exact s2.trans sH2
 · intro T hT
   refine aI (aBP w hv.app).v ?_
   by_cases e : dC l w = 0
   · obtain ⟨hl8,hl,hw⟩ := aAO e
     by_cases q1 : (l.length : Int) < 8
     · simp only [go_sem,e,hlen,q1]
       have hone : Sl w0 (h ++ [some (.row w.c),some (.row one.c),some (.row one.c)]) 3 (.sl (.own (h.length + 2) 0) 1 3 true) ([one].map aK.c) := by
        refine mQ (rows := [one.c]) ?_ (fun c hc => by simp at hc; subst hc; rfl)
        rw [qI (by omega)]; simp
       refine aI (qN hone (by simp)).v ?_
       rw [show [one].all aS = aS one by simp]
       cases ho : aS one with
       | false =>
        simp only [go_sem]
        exact hT _ _ ⟨aH.refl.app,by simp only [go_sem],by simp only [go_sem]⟩
       | true =>
       simp only [go_sem]
       refine ⟨fun q2 => ?_,fun q2 => ?_⟩
       · refine aI (aCs w hv.app).v ?_
         rw [mT,if_pos e]
         obtain ⟨b0,c0,hb0⟩ : ∃ b0 c0,gU (fS l w) = [.bool b0,.agg c0] ∧ c0.length = 4 ∧ c0.all Ab.one = true ∧ (b0 = true → fS l w = none) := by
          cases hh : fS l w with
          | none => exact ⟨true,_,rfl,rfl,rfl,fun _ => rfl⟩
          | some x => exact ⟨false,_,rfl,rfl,rfl,fun h => by cases h⟩
         obtain ⟨hb0,hc4,hc1,hb1⟩ := hb0
         rw [hb0]
         simp only [go_sem,List.cons_append,List.nil_append,hc1,hc4]
         obtain ⟨X,eX⟩ : ∃ X,X = h ++ [some (Blk.row [.int .i64 w.xl,.int .i64 w.xh,.int .i64 w.yl,.int .i64 w.yh]),some (.row [.int .i64 one.x,.int .i64 one.y,.int .i64 one.s]),some (.row [.int .i64 one.x,.int .i64 one.y,.int .i64 one.s]),some (.row (c0 ++ []))] := ⟨_,rfl⟩
         rw [← eX]
         have sX : aH h X := eX ▸ aH.refl.app
         have xw : X[h.length]? = some (some (.row w.c)) := by rw [eX,qI (by omega)]; simp [dL.c]
         have xo : X[h.length + 1]? = some (some (.row one.c)) := by rw [eX,qI (by omega)]; simp [aK.c]
         refine eL (S := Nat × aA × AV) (F := fun s => [(0,v),(3,.int .i64 str),(4,sv),(5,.int .i64 bs),(7,.ptr (.own h.length 0)),(8,.ptr (.own (h.length + 1) 0)),(13,.bool b0),(15,.int .i64 0),(16,s.2.2),(17,.int .i64 s.1)]) (H := fun s => s.2.1) (meas := fun s => l.length - s.1)
          (Inv := fun s => s.1 ≤ l.length ∧ Gro X s.2.1 3 s.1 s.2.2 (((l.take s.1).map (cI str)).map aK.c).flatten) (0,X,.nilS) ⟨Nat.zero_le _,by simpa using Gro.nil aH.refl⟩ rfl rfl ?_
         rintro ⟨j,H,ov⟩ ⟨hj,hG⟩ ih
         simp only at hj hG ih ⊢
         have sH := sX.trans hG.sub
         refine bF aV L7_0_g [0,3,4,5,7,8,13,15,16,17] L7_0.eq_1 ?_
         by_cases hjl : j < l.length
         · have e1 : (j : Int) < l.length := by omega
           obtain ⟨_,q,hix,hrow,_⟩ := (hv.sub sH).use
           rw [List.length_map] at hix
           have e2 := hix j hjl
           have e3 : ∀ L,rdn w0 (H ++ L) (q.add (j * 3)) 3 = some l[j].c := fun L => cK (hrow j _ (jK hjl))
           have e3' := hrow j _ (jK hjl)
           obtain ⟨r,hr⟩ : ∃ r,r = l[j] := ⟨_,rfl⟩
           have hR := List.all_eq_true.1 hl _ (qG hjl)
           rw [← hr] at hR
           simp only [aS,inB,Bool.and_eq_true,decide_eq_true_eq] at hR
           have w1 := vB (n := 1000000 - r.s) (by unfold I64; omega)
           simp only [go_sem,hlen,e1,e2,e3,e3',← hr,w1]
           refine ⟨by unfold I64; omega,?_⟩
           obtain ⟨Y,eY⟩ : ∃ Y,Y = H ++ [some (Blk.row [.int .i64 r.x,.int .i64 r.y,.int .i64 (r.s + min str (1000000 - r.s))]),some (.row [.int .i64 r.x,.int .i64 r.y,.int .i64 (r.s + min str (1000000 - r.s))])] := ⟨_,rfl⟩
           have gY : Gro X Y 3 j ov (((l.take j).map (cI str)).map aK.c).flatten := eY ▸ hG.app
           have hk : Y[H.length + 1]? = some (some (.row (cI str r).c)) := by rw [eY,qI (by omega)]; simp [cI,aK.c]
           obtain ⟨G,e5,e6⟩ := gY.more (w0 := w0) (b := 24) (f := true) hk rfl rfl (by omega) (by omega)
           rw [← eY,e5]
           simp only [go_sem]
           refine ⟨(by unfold I64; omega),ih (j + 1,G,_) ⟨by simp only; omega,?_⟩ (by simp only; omega)⟩
           rw [List.take_succ_eq_append_getElem hjl,← hr]
           simpa using e6
         · have e1 : ¬ (j : Int) < l.length := by omega
           obtain rfl : j = l.length := by omega
           rw [List.take_length] at hG
           have hw' := hG.sub.2 _ _ xw
           have ho' := hG.sub.2 _ _ xo
           have hwL := xL hw'
           have hoL := xL ho'
           simp only [go_sem,hlen,e1,hw',ho',hwL,hoL]
           obtain ⟨Y,eY⟩ : ∃ Y,Y = H ++ [some (Blk.row [.int .i64 one.x,.int .i64 one.y,.int .i64 one.s])] := ⟨_,rfl⟩
           have gY : Gro X Y 3 l.length ov ((l.map (cI str)).map aK.c).flatten := eY ▸ hG.app
           have hk : Y[H.length]? = some (some (.row one.c)) := by rw [eY,qI (Nat.le_refl _),Nat.sub_self]; rfl
           obtain ⟨G,e5,e6⟩ := gY.more (w0 := w0) (b := 24) (f := true) hk rfl rfl (by omega) (by omega)
           have sG := sX.trans e6.sub
           have hwG := e6.sub.2 _ _ xw
           have hwGL := xL hwG
           rw [← eY,e5]
           simp only [go_sem,hwG,hwGL]
           have hM : Sl w0 G 3 (.sl (.own Y.length 0) (l.length + 1) 3 false) ((l.map (cI str) ++ [one]).map aK.c) := by
            refine Gro.sl (h := X) (n := l.length + 1) (rows := (l.map (cI str) ++ [one]).map aK.c) ?_ (fun c hc => by obtain ⟨x,_,rfl⟩ := List.mem_map.1 hc; rfl) (by simp) (by omega)
            rw [List.map_append,List.flatten_append]; simpa using e6
           have hMl : (l.map (cI str) ++ [one]).all aS = true := by
            rw [List.all_append,Bool.and_eq_true]
            refine ⟨?_,by simp [ho]⟩
            rw [List.all_map,List.all_eq_true]
            exact fun x hx => aAs (by omega) (List.all_eq_true.1 hl x hx)
           have eM := aAP (l := l.map (cI str) ++ [one]) (w := w) (by simp; omega) hMl hw
           refine aI (aCs w hM).v ?_
           rw [mT,if_pos eM]
           cases hb : b0 with
           | false =>
            subst hb
            cases hh : fS (l.map (cI str) ++ [one]) w with
            | none =>
             simp only [go_sem,gU,List.cons_append,List.nil_append]
             exact hT _ _ ⟨sG.app,by simp only [go_sem],by simp only [go_sem]⟩
            | some x =>
             simp only [go_sem,gU,List.cons_append,List.nil_append]
             exact hT _ _ ⟨sG.app,by simp only [go_sem],by simp only [go_sem]⟩
           | true =>
            subst hb
            rw [pT (by omega) hl ho (hb1 rfl)]
            simp only [go_sem,gU,List.cons_append,List.nil_append]
            exact hT _ _ ⟨sG.app,by simp only [go_sem],by simp only [go_sem]⟩
       · exact hT _ _ ⟨aH.refl.app,by simp only [go_sem],by simp only [go_sem]⟩
     · simp only [go_sem,e,hlen,q1]
       exact hT _ _ ⟨aH.refl.app,by simp only [go_sem],by simp only [go_sem]⟩
   · simp only [go_sem,e]
     exact hT _ _ ⟨aH.refl.app,by simp only [go_sem],by simp only [go_sem]⟩
end Go.Proofs.Ab

/- The own layer under the proofs of this seat, part M: what calls of the program come to on an abstract heap. No condition. -/
import Derived.Test.YtajecdfdnlfndaaK
set_option linter.unusedSimpArgs false
set_option linter.unusedVariables false
namespace Go.Proofs.Ab
open Go Go.Proofs
structure aO where
 x : Int
 y : Int
 s : Int
structure dP where
 xl : Int
 xh : Int
 yl : Int
 yh : Int
def dM (a b : Int × Int) : Int := a.1 * b.1 + a.2 * b.2
def eP (r : aO) : Int × Int := (r.x,r.y)
def cM : List aO → Int × Int → Int
 | [],_ => 0
 | r :: l,d => r.s * max 0 (dM d (eP r)) + cM l d
def mX (l : List aO) (f d : Int × Int) : Bool := decide (cM l d < -(dM d f))
def kD (r : aO) : List (Int × Int) := [(-r.y,r.x),(r.y,-r.x),(r.x,r.y),(-r.x,-r.y)]
def kE : List (Int × Int) := [(1,0),(-1,0),(0,1),(0,-1)]
def fW (l : List aO) : List (Int × Int) := l.flatMap kD ++ kE
def bM (w : dP) : List (Int × Int) := [(w.xl,w.yl),(w.xl,w.yh),(w.xh,w.yl),(w.xh,w.yh)]
def fJ (l : List aO) (f : Int × Int) : Option (Int × Int) := (fW l).find? (mX l f)
def jF (l : List aO) (w : dP) : Option ((Int × Int) × (Int × Int)) := (bM w).findSome? fun f => (fJ l f).map fun d => (f,d)
def aZ (r : aO) : Bool := inB r.x (-100) 100 && (inB r.y (-100) 100 && ((decide (r.x ≠ 0) || decide (r.y ≠ 0)) && inB r.s 0 1000000))
def fD (lo hi : Int) : Bool := decide (-1000000 ≤ lo) && (decide (lo ≤ hi) && decide (hi ≤ 1000000))
def fF (w : dP) : Bool := fD w.xl w.xh && fD w.yl w.yh
theorem lN {l : List aO} {w : dP} : jF l w = none ↔ ∀ f ∈ bM w,∀ d ∈ fW l,-(dM d f) ≤ cM l d := by
 simp [jF,fJ,mX]
def aU : List aO → List Int → Int × Int
 | r :: l,t :: ts => (t * r.x + (aU l ts).1,t * r.y + (aU l ts).2)
 | _,_ => (0,0)
def bU : List aO → List Int → Bool
 | r :: l,t :: ts => inB t 0 r.s && bU l ts
 | [],[] => true
 | _,_ => false
theorem aA8 {t s m : Int} (h0 : 0 ≤ t) (h1 : t ≤ s) : t * m ≤ s * max 0 m := by
 by_cases hm : 0 ≤ m
 · rw [Int.max_eq_right hm]; exact Int.mul_le_mul_of_nonneg_right h1 hm
 · rw [Int.max_eq_left (by omega)]
   have : t * m ≤ 0 := Int.mul_nonpos_of_nonneg_of_nonpos h0 (by omega)
   omega
theorem iF (d : Int × Int) : ∀ (l : List aO) (t : List Int),bU l t = true → dM d (aU l t) ≤ cM l d
 | [],[],_ => by simp [dM,aU,cM]
 | r :: l,t :: ts,h => by
  simp only [bU,inB,Bool.and_eq_true,decide_eq_true_eq] at h
  have h1 := iF d l ts h.2
  have h2 := aA8 (m := dM d (eP r)) h.1.1 h.1.2
  simp only [dM,aU,cM,eP] at h1 h2 ⊢
  grind
theorem uG {c lo hi x : Int} (h0 : lo ≤ x) (h1 : x ≤ hi) : c * x ≤ c * lo ∨ c * x ≤ c * hi := by
 by_cases hc : 0 ≤ c
 · exact .inr (Int.mul_le_mul_of_nonneg_left h1 hc)
 · exact .inl (Int.mul_le_mul_of_nonpos_left (by omega) h0)
theorem box_le {w : dP} {d f : Int × Int} {m : Int} (h : ∀ c ∈ bM w,-(dM d c) ≤ m) (x0 : w.xl ≤ f.1) (x1 : f.1 ≤ w.xh) (y0 : w.yl ≤ f.2) (y1 : f.2 ≤ w.yh) : -(dM d f) ≤ m := by
 simp only [bM,List.forall_mem_cons,dM] at h
 obtain ⟨h1,h2,h3,h4,_⟩ := h
 have hx := uG (c := -d.1) x0 x1
 have hy := uG (c := -d.2) y0 y1
 simp only [Int.neg_mul] at hx hy
 simp only [dM]
 omega
theorem qW {l : List aO} {a b : List Int} {w : dP} (ha : bU l a = true) (hb : bU l b = true) (hw : ∀ f ∈ bM w,f = (-(aU l a).1,-(aU l a).2) ∨ f = (-(aU l b).1,-(aU l b).2)) (d : Int × Int) : ∀ f ∈ bM w,-(dM d f) ≤ cM l d := by
 intro f hf
 rcases hw f hf with rfl | rfl
 · have := iF d l a ha; simp only [dM,Int.mul_neg] at this ⊢; omega
 · have := iF d l b hb; simp only [dM,Int.mul_neg] at this ⊢; omega
def gF (lo hi p : Int) : Int := lo + ((hi - lo) * p).tdiv 100
theorem eW {lo hi p : Int} (h : lo ≤ hi) (h0 : 0 ≤ p) (h1 : p ≤ 100) : lo ≤ gF lo hi p ∧ gF lo hi p ≤ hi := by
 have a : 0 ≤ (hi - lo) * p := Int.mul_nonneg (by omega) h0
 have b : (hi - lo) * p ≤ (hi - lo) * 100 := Int.mul_le_mul_of_nonneg_left h1 (by omega)
 unfold gF
 rw [Int.tdiv_eq_ediv_of_nonneg a]; omega
theorem mQ {lo hi p q : Int} (h : lo ≤ hi) (h0 : 0 ≤ p) (h1 : p ≤ q) : gF lo hi p ≤ gF lo hi q := by
 have a : 0 ≤ (hi - lo) * p := Int.mul_nonneg (by omega) h0
 have b : (hi - lo) * p ≤ (hi - lo) * q := Int.mul_le_mul_of_nonneg_left h1 (by omega)
 unfold gF
 rw [Int.tdiv_eq_ediv_of_nonneg a,Int.tdiv_eq_ediv_of_nonneg (Int.le_trans a b)]; omega
theorem dG {x y m n : Int} (h0 : -m ≤ x) (h1 : x ≤ m) (g0 : -n ≤ y) (g1 : y ≤ n) : -(m * n) ≤ x * y ∧ x * y ≤ m * n := by
 have e1 : 0 ≤ (m - x) * (n - y) := Int.mul_nonneg (by omega) (by omega)
 have e2 : 0 ≤ (m + x) * (n + y) := Int.mul_nonneg (by omega) (by omega)
 have e3 : 0 ≤ (m - x) * (n + y) := Int.mul_nonneg (by omega) (by omega)
 have e4 : 0 ≤ (m + x) * (n - y) := Int.mul_nonneg (by omega) (by omega)
 simp only [Int.sub_mul,Int.mul_sub,Int.add_mul,Int.mul_add] at e1 e2 e3 e4
 omega
theorem xU {D : Int} {r : aO} {d : Int × Int} (hr : aZ r = true) (h0 : -D ≤ d.1 ∧ d.1 ≤ D) (h1 : -D ≤ d.2 ∧ d.2 ≤ D) : (-(D * 100) ≤ d.1 * r.x ∧ d.1 * r.x ≤ D * 100) ∧ (-(D * 100) ≤ d.2 * r.y ∧ d.2 * r.y ≤ D * 100) := by
 simp only [aZ,inB,Bool.and_eq_true,decide_eq_true_eq] at hr
 exact ⟨dG h0.1 h0.2 hr.1.1 hr.1.2,dG h1.1 h1.2 hr.2.1.1 hr.2.1.2⟩
theorem mN {D : Int} {r : aO} {d : Int × Int} (hr : aZ r = true) (h0 : -D ≤ d.1 ∧ d.1 ≤ D) (h1 : -D ≤ d.2 ∧ d.2 ≤ D) : 0 ≤ r.s * max 0 (dM d (eP r)) ∧ r.s * max 0 (dM d (eP r)) ≤ 1000000 * (D * 200) := by
 have h := xU hr h0 h1
 simp only [aZ,inB,Bool.and_eq_true,decide_eq_true_eq] at hr
 obtain ⟨_,_,_,hs0,hs1⟩ := hr
 have hm : 0 ≤ max 0 (dM d (eP r)) ∧ max 0 (dM d (eP r)) ≤ D * 200 := by
  simp only [dM,eP]; omega
 exact ⟨Int.mul_nonneg hs0 hm.1,Int.mul_le_mul hs1 hm.2 hm.1 (by omega)⟩
theorem tG {D : Int} {d : Int × Int} (h0 : -D ≤ d.1 ∧ d.1 ≤ D) (h1 : -D ≤ d.2 ∧ d.2 ≤ D) : ∀ l : List aO,l.all aZ = true → 0 ≤ cM l d ∧ cM l d ≤ l.length * (1000000 * (D * 200))
 | [],_ => by simp [cM]
 | r :: l,h => by
  simp only [List.all_cons,Bool.and_eq_true] at h
  have a := mN h.1 h0 h1
  have b := tG h0 h1 l h.2
  simp only [cM,List.length_cons,Int.natCast_add,Int.add_mul] at *
  omega
def InC (u v d : Int × Int) : Prop := ∃ k a b : Int,0 < k ∧ 0 ≤ a ∧ 0 ≤ b ∧ k * d.1 = a * u.1 + b * v.1 ∧ k * d.2 = a * u.2 + b * v.2
def NSg (u v : Int × Int) (r : aO) : Prop := (0 ≤ dM u (eP r) ∧ 0 ≤ dM v (eP r)) ∨ (dM u (eP r) ≤ 0 ∧ dM v (eP r) ≤ 0)
theorem InC.left (u v : Int × Int) : InC u v u := ⟨1,1,0,by omega,by omega,by omega,by simp,by simp⟩
theorem InC.right (u v : Int × Int) : InC u v v := ⟨1,0,1,by omega,by omega,by omega,by simp,by simp⟩
theorem InC.swap {u v d : Int × Int} (h : InC u v d) : InC v u d := by
 obtain ⟨k,a,b,hk,ha,hb,h1,h2⟩ := h
 exact ⟨k,b,a,hk,hb,ha,by omega,by omega⟩
theorem NSg.swap {u v : Int × Int} {r : aO} (h : NSg u v r) : NSg v u r := h.imp (fun x => ⟨x.2,x.1⟩) fun x => ⟨x.2,x.1⟩
end Go.Proofs.Ab
namespace Go.Proofs.Ab
open Go Go.Proofs
variable {w0 : World} {h : aA}
attribute [local irreducible] ACall aY cX bB eB rvC lp rg dr ex un rv
@[go_sem] def aO.c (r : aO) : List AV := [.int .i64 r.x,.int .i64 r.y,.int .i64 r.s]
@[go_sem] def dP.c (w : dP) : List AV := [.int .i64 w.xl,.int .i64 w.xh,.int .i64 w.yl,.int .i64 w.yh]
@[go_sem] def pC (p : Int × Int) : List AV := [.int .i64 p.1,.int .i64 p.2]
def Bd (D : Int) (p : Int × Int) : Prop := (-D ≤ p.1 ∧ p.1 ≤ D) ∧ -D ≤ p.2 ∧ p.2 ≤ D
theorem by_c (p q : Int × Int) {D E : Int} (hp : Bd D p) (hq : Bd E q) (hD : D * E ≤ 1000000000000) : bB Try.prog w0 65 [.agg (pC p),.agg (pC q)] h (.int .i64 (dM p q)) h := by
 refine aV bA tR yV yU (qE rfl) (by simp [AV.bdd,AV.bdds]) fun hb ha => bE ?_
 have h1 := dG hp.1.1 hp.1.2 hq.1.1 hq.1.2
 have h2 := dG hp.2.1 hp.2.2 hq.2.1 hq.2.2
 simp only [go_sem,mf65]
 exact ⟨(by unfold I64; omega),(by unfold I64; omega),(by unfold I64; omega),rfl⟩
theorem vQ (l m : List aO) (d : Int × Int) : cM (l ++ m) d = cM l d + cM m d := by
 induction l with
 | nil => simp [cM]
 | cons r l ih => simp only [List.cons_append,cM,ih]; omega
theorem rJ {l : List aO} {j : Nat} (hj : j < l.length) (d : Int × Int) : cM (l.take (j + 1)) d = cM (l.take j) d + l[j].s * max 0 (dM d (eP l[j])) := by
 rw [List.take_succ_eq_append_getElem hj,vQ]; simp [cM]
theorem pull_c (d : Int × Int) {v : AV} {l : List aO} {D : Int} (hd : Bd D d) (hD0 : 0 ≤ D) (hD : D ≤ 10000) (hv : Sl w0 h 3 v (l.map aO.c)) (hl : l.all aZ = true) (hn : l.length ≤ 20) :
 bB Try.prog w0 66 [.agg (pC d),v] h (.int .i64 (cM l d)) h := by
 refine aV bA tQ yT yS (qE rfl) (by simp [AV.bdd,AV.bdds]) fun hb ha => bE ?_
 obtain ⟨hlen,q,hix,hrow,_⟩ := hv.use
 rw [List.length_map] at hlen hix
 have vb := hv.bdd (Nat.le_refl _)
 simp only [go_sem,mf66,hlen]
 have key : ∀ j : Nat,0 ≤ cM (l.take j) d ∧ cM (l.take j) d ≤ 20 * (1000000 * (D * 200)) := fun j => by
  have := tG hd.1 hd.2 (l.take j) (by rw [List.all_eq_true] at hl ⊢; exact fun x hx => hl x (List.mem_of_mem_take hx))
  have h2 : ((l.take j).length : Int) * (1000000 * (D * 200)) ≤ 20 * (1000000 * (D * 200)) := Int.mul_le_mul_of_nonneg_right (by rw [List.length_take]; omega) (by omega)
  omega
 refine gG (S := Nat) (F := fun j => [(2,.ptr (.own h.length 0)),(5,.int .i64 (cM (l.take j) d)),(8,v),(9,.int .i64 l.length),(10,.int .i64 j)]) (H := fun _ => h ++ [some (.row (pC d))]) (meas := fun j => l.length - j) (Inv := fun j => j ≤ l.length) 0 (Nat.zero_le _) (by simp [cM]) rfl ?_
 intro j hj ih
 refine bO bA aCA [2,5,8,9,10] L66_0.eq_1 ?_
 by_cases hjl : j < l.length
 · have e1 : (j : Int) < l.length := by omega
   have e2 := hix j hjl
   have hr : (l.map aO.c)[j]? = some l[j].c := by rw [List.getElem?_map,qA hjl]; rfl
   have e3 : ∀ L,rdn w0 (h ++ L) (q.add (j * 3)) 3 = some l[j].c := fun L => eF (hrow j _ hr)
   have hR := List.all_eq_true.1 hl _ (qG hjl)
   have hb1 := mN hR hd.1 hd.2
   have k1 := key j
   have hrb : Bd 100 (eP l[j]) := by
    simp only [aZ,inB,Bool.and_eq_true,decide_eq_true_eq] at hR
    exact ⟨hR.1,hR.2.1⟩
   simp only [go_sem,e1,e2,e3]
   refine aAk bA [0,1,2,3,4,5,6,7,8,9,10,11,12,13] [o_ 14 (m_ 5),o_ 15 (.addr (.t 7) 2),o_ 16 (l_ 15),o_ 17 (.load (.t 2) (some 2)),o_ 18 (.addr (.t 7) 0),o_ 19 (l_ 18),o_ 20 (.addr (.t 7) 1),o_ 21 (l_ 20),o_ 22 (.build [(.int .i64 0),(.int .i64 0)] [(0,1,(.t 19)),(1,1,(.t 21))]),.call (some 23) none (f_ 65) [(.t 17),(.t 22)]] [([(2,o_ 16 (l_ 15))],[o_ 24 (.minmax false [(i_ 0),(.t 23)]),o_ 25 (.bin .mul (.t 16) (.t 24)),o_ 26 (.bin .add (.t 14) (.t 25)),o_ 5 (m_ 26)])] rfl rfl (by kernel_rfl) ?_
   simp only [go_sem,e1]
   refine aM (by_c d (eP l[j]) hd hrb (by omega)).v ?_
   simp only [go_sem]
   refine ⟨(by unfold I64; omega),(by unfold I64; omega),(by unfold I64; omega),gU 1 hb (by simp [dK,dL,eI,eJ,fS,eE,AV.bdds,AV.bdd,Pl.bdd,cQ]) (by simp [dK,dL,eI,eJ,fS,eE,AV.bdds,AV.bdd,Pl.bdd,cQ]; exact AV.bdd_mono (by omega) _ vb) ?_⟩
   have := ih (j + 1) (by omega) (by omega)
   rw [rJ hjl] at this
   simpa [pC] using this
 · have e1 : ¬ (j : Int) < l.length := by omega
   obtain rfl : j = l.length := by omega
   simp only [go_sem,e1]
   simp
theorem aCo (d f : Int × Int) {v : AV} {l : List aO} {p q : Pl} (hd : Bd 10000 d) (hf : Bd 1000000 f) (hp : rdn w0 h p 2 = some (pC f)) (hq : rd w0 h q = some v) (hv : Sl w0 h 3 v (l.map aO.c)) (hl : l.all aZ = true) (hn : l.length ≤ 20) :
 bB Try.prog w0 64 [.agg (pC d),.ptr p,.ptr q] h (.bool (mX l f d)) h := by
 refine aV bA tS yX yW (qE rfl) (by simp [AV.bdd,AV.bdds]) fun hb ha => bE ?_
 have e1 : ∀ L,rdn w0 (h ++ L) p 2 = some (pC f) := fun L => eF hp
 have e2 : ∀ L,rd w0 (h ++ L) q = some v := fun L => gB hq
 have h1 := dG hd.1.1 hd.1.2 hf.1.1 hf.1.2
 have h2 := dG hd.2.1 hd.2.2 hf.2.1 hf.2.2
 simp only [go_sem,mf64]
 refine aAk bA [0,1,4,5,2,3,6,7,8] [o_ 5 (.load (.t 3) (some 2)),o_ 6 (.load (.t 1) (some 2)),o_ 9 (.load (.t 3) (some 2)),o_ 10 (l_ 2),.call (some 7) none (f_ 65) [(.t 5),(.t 6)]] [([(2,o_ 9 (.load (.t 3) (some 2))),(3,o_ 10 (l_ 2))],[o_ 8 (.un .neg (.t 7)),.call (some 11) none (f_ 66) [(.t 9),(.t 10)],o_ 12 (.bin .gtr (.t 8) (.t 11)),o_ 4 (m_ 12)])] rfl rfl (by kernel_rfl) ?_
 simp only [go_sem,e1,e2]
 refine aM (by_c d f hd hf (by omega)).v ?_
 simp only [go_sem,e2]
 have hi : I64 (0 - dM d f) := by unfold I64; simp only [dM]; omega
 refine ⟨hi,?_⟩
 refine aM (pull_c d hd (by omega) (by omega) (hv.app) hl hn).v ?_
 simp only [go_sem]
 simp only [mX,Int.zero_sub]
theorem dirs_c {v : AV} (hv : cellsOf v = some [v]) : ACall Try.prog w0 63 [v] h fun y H => y = .fn (.func 83) [] [.ptr (.own h.length 0)] ∧ H = h ++ [some (.row [v])] := by
 refine bR bA tT yZ yY (qE rfl) fun hb ha => bE ?_
 simp only [go_sem,mf63,hv]
def PV (x : Int × Int) (_ : aA) (args : List AV) : Prop := args = [.agg (pC x)]
theorem yD {l : List (Int × Int)} {j : Nat} (hj : j < l.length) : ((((l.map pC).flatten).drop (j * 2)).take 2) = pC l[j] := by
 have := uM (rows := l.map pC) (es := 2) (fun c hc => by obtain ⟨x,_,rfl⟩ := List.mem_map.1 hc; rfl) (j := j) (c := pC l[j]) (by rw [List.getElem?_map,qA hj]; rfl)
 exact this.2.1
theorem aCs {C : List Nat} {q : Nat} {p : Pl} {v : AV} {l : List aO} {K : aA → Prop} (hp : rd w0 (msk C h) p = some v) (hv : Sl w0 (msk C h) 3 v (l.map aO.c)) (hl : l.all aZ = true) (hn : l.length ≤ 20)
 (hI : dZ Try.prog w0 q C PV (· = []) K (fW l) [] h) : ACall Try.prog w0 83 [.yld q,.ptr p] h fun _ H => K H := by
 refine bR bA tP yR yQ (qE rfl) fun hb ha => bE ?_
 have e0 : ∀ L,rd w0 (h ++ L) p = some v := fun L => gB (uK.rd hp)
 have hlen : mG v = some (.int .i64 l.length) := by have := hv.use.1; rwa [List.length_map] at this
 simp only [go_sem,mf83,e0,hlen]
 refine gG (S := Nat × aA) (F := fun s => [(0,.yld q),(9,v),(10,.int .i64 l.length),(11,.int .i64 s.1)]) (H := fun s => s.2) (meas := fun s => l.length - s.1)
  (Inv := fun s => s.1 ≤ l.length ∧ bT C h s.2 ∧ dZ Try.prog w0 q C PV (· = []) K ((l.drop s.1).flatMap kD ++ kE) [] s.2) (0,h) ⟨Nat.zero_le _,bT.refl,by simpa [fW] using hI⟩ rfl (by simp) ?_
 rintro ⟨j,H⟩ ⟨hj,kH,iH⟩ ih
 simp only at hj kH iH ih ⊢
 refine bO bA aCy [0,9,10,11] L83_1.eq_1 ?_
 by_cases hjl : j < l.length
 · have e1 : (j : Int) < l.length := by omega
   have hvH := hv.sub ((kH.msk (ms := C) fun i hi => .inl hi).trans (uK (ms := C)))
   obtain ⟨_,p3,hix,hrow,_⟩ := hvH.use
   rw [List.length_map] at hix
   have e2 := hix j hjl
   have hr : (l.map aO.c)[j]? = some l[j].c := by rw [List.getElem?_map,qA hjl]; rfl
   have e3 : ∀ L,rdn w0 (H ++ L) (p3.add (j * 3)) 3 = some l[j].c := fun L => eF (hrow j _ hr)
   have e3' := hrow j _ hr
   have hR := List.all_eq_true.1 hl _ (qG hjl)
   simp only [aZ,inB,Bool.and_eq_true,decide_eq_true_eq] at hR
   obtain ⟨r,hr'⟩ : ∃ r,r = l[j] := ⟨_,rfl⟩
   rw [← hr'] at hR
   rw [List.drop_eq_getElem_cons hjl,List.flatMap_cons,← hr',List.append_assoc] at iH
   simp only [go_sem,e1,e2,e3,e3',← hr',Int.zero_sub]
   refine ⟨(by unfold I64; omega),(by unfold I64; omega),(by unfold I64; omega),(by unfold I64; omega),?_⟩
   refine gG (S := Nat × aA) (F := fun s => [(0,.yld q),(9,v),(10,.int .i64 l.length),(11,.int .i64 j),(39,.agg ((kD r).map pC).flatten),(40,.int .i64 s.1)]) (H := fun s => s.2) (meas := fun s => 4 - s.1)
    (Inv := fun s => s.1 ≤ 4 ∧ bT C h s.2 ∧ dZ Try.prog w0 q C PV (· = []) K ((kD r).drop s.1 ++ ((l.drop (j + 1)).flatMap kD ++ kE)) [] s.2) (0,_) ⟨by simp,kH.app,iH.keep aI.refl.app.toK⟩ rfl rfl ?_
   rintro ⟨i,G⟩ ⟨hi,kG,iG⟩ ih2
   simp only at hi kG iG ih2 ⊢
   refine bO bA aCz [0,9,10,11,39,40] L83_0.eq_1 ?_
   by_cases hi4 : i < 4
   · have e4 : (i : Int) < 4 := by omega
     have hx := yD (l := kD r) (j := i) hi4
     rw [List.drop_eq_getElem_cons (show i < (kD r).length from hi4),List.cons_append] at iG
     simp only [go_sem,e4,hi4,hx]
     refine bF (dZ.call iG aI.refl.app.toK [] rfl (fun i hi => by cases hi) (fun i hi => by cases hi) rfl) ?_
     rintro y G1 ⟨k1,r1⟩
     have k2 : bT C h G1 := kG.trans ((aI.refl.app.toK (C := C)).trans k1)
     rcases r1 with ⟨rfl,it⟩ | ⟨rfl,kk⟩
     · simp only [go_sem]
       exact ⟨(by unfold I64; omega),ih2 (i + 1,G1) ⟨by simp only; omega,k2,it⟩ (by simp only; omega)⟩
     · simp only [go_sem]
       exact kk _ bT.refl
   · have e4 : ¬ (i : Int) < 4 := by omega
     obtain rfl : i = 4 := by omega
     simp only [go_sem,e4]
     exact ⟨(by unfold I64; omega),ih (j + 1,G) ⟨by simp only; omega,kG,iG⟩ (by simp only; omega)⟩
 · have e1 : ¬ (j : Int) < l.length := by omega
   obtain rfl : j = l.length := by omega
   rw [List.drop_length,List.flatMap_nil,List.nil_append] at iH
   simp only [go_sem,e1]
   refine gG (S := Nat × aA) (F := fun s => [(0,.yld q),(53,.agg (kE.map pC).flatten),(54,.int .i64 s.1)]) (H := fun s => s.2) (meas := fun s => 4 - s.1)
    (Inv := fun s => s.1 ≤ 4 ∧ dZ Try.prog w0 q C PV (· = []) K (kE.drop s.1) [] s.2) (0,_) ⟨by simp,iH⟩ rfl (by simp) ?_
   rintro ⟨i,G⟩ ⟨hi,iG⟩ ih2
   simp only at hi iG ih2 ⊢
   refine bO bA aCx [0,53,54] L83_2.eq_1 ?_
   by_cases hi4 : i < 4
   · have e4 : (i : Int) < 4 := by omega
     have hx := yD (l := kE) (j := i) hi4
     rw [List.drop_eq_getElem_cons (show i < kE.length from hi4)] at iG
     simp only [go_sem,e4,hi4,hx]
     refine bF (dZ.call iG aI.refl.app.toK [] rfl (fun i hi => by cases hi) (fun i hi => by cases hi) rfl) ?_
     rintro y G1 ⟨k1,r1⟩
     rcases r1 with ⟨rfl,it⟩ | ⟨rfl,kk⟩
     · simp only [go_sem]
       exact ⟨(by unfold I64; omega),ih2 (i + 1,G1) ⟨by simp only; omega,it⟩ (by simp only; omega)⟩
     · simp only [go_sem]
       exact kk _ bT.refl
   · have e4 : ¬ (i : Int) < 4 := by omega
     obtain rfl : i = 4 := by omega
     simp only [go_sem,e4]
     exact iG _ bT.refl
def jR (o : Option (Int × Int)) : AV := match o with
 | some d => .tup [.agg (pC d),.bool true]
 | none => .tup [.agg (pC (0,0)),.bool false]
theorem oH {p : Pl} {v fv : AV} {l : List aO} (P : Int × Int → Bool) (hp : rd w0 h p = some v) (hv : Sl w0 h 3 v (l.map aO.c)) (hl : l.all aZ = true) (hn : l.length ≤ 20) (hfo : cellsOf fv = some [fv])
 (hf : ∀ d ∈ fW l,∀ H,aI h H → eB Try.prog w0 fv [.agg (pC d)] H (.bool (P d)) H) :
 bB Try.prog w0 62 [.fn (.func 83) [] [.ptr p],fv] h (jR ((fW l).find? P)) h := by
 have hbv : ∀ N,(jR ((fW l).find? P)).bdd N := fun N => by unfold jR; split <;> simp [AV.bdd,AV.bdds,pC]
 refine eK (hbv _) (bR bA tU zB zA (qE rfl) fun hb ha => bE ?_)
 simp only [go_sem,mf62,hfo]
 refine tC [3,4,5,8] ?_
 simp only [go_sem]
 refine xV (fid := 83) (first := []) rfl (.inl rfl) fun hca hcb hps => ?_
 simp only [go_sem]
 obtain ⟨N,eN⟩ : ∃ N,N = h.length := ⟨_,rfl⟩
 obtain ⟨LB,hLB⟩ : ∃ LB : LoopState → Option Code → Blk,LB = Blk.loop 15 [(3,AV.ptr (Pl.own (List.length h) 0)),(4,AV.ptr (Pl.own (List.length h + 1) 0)),(5,AV.ptr (Pl.own (List.length h + 2) 0)),(8,AV.fn (Fn.func 83) [] [AV.ptr p])] #[9] (bH (cP 62) [1,0,1,0,0]) (bH (cP 62) [1,0,1,0,1]) := ⟨_,rfl⟩
 rw [← hLB]
 obtain ⟨C,eC⟩ : ∃ C,C = [N + 1,N + 2,N + 3] := ⟨_,rfl⟩
 obtain ⟨G0,eG0⟩ : ∃ G0 : aA,G0 = h ++ [some (.row [fv]),some (.row [.int .i64 0,.int .i64 0]),some (.row [.bool false]),some (LB .ready none)] := ⟨_,rfl⟩
 have hm : aI h (msk C G0) := by
  rw [eG0]
  refine ⟨by rw [fA]; simp,fun i b e => ?_⟩
  have := aR e
  rw [kT (by rw [eC]; simp; omega)]; exact aD e
 rw [← eG0,← eN]
 refine aCs (C := C) (hm.rd hp) (hv.sub hm) hl hn ?_
 have claim : ∀ (r : List (Int × Int)),(∀ d ∈ r,d ∈ fW l) → (fW l).find? P = r.find? P → ∀ H,aI h H → H[N]? = some (some (.row [fv])) → H[N + 1]? = some (some (.row [.int .i64 0,.int .i64 0])) → H[N + 2]? = some (some (.row [.bool false])) → H[N + 3]? = some (some (LB .ready none)) →
  dZ Try.prog w0 (N + 3) C PV (· = []) (fun h' => rgE Try.prog w0 none 15 N (vP w0 [RV.c 4 (some 2),RV.c 5 none] fun v' h' => aI h h' ∧ v' = jR (List.find? P (fW l)))
  [It.inBlk 0,It.code ((SC.reg [MIx.op (some 7) none (MOp.alloc [AV.int IntKind.i64 0,AV.int IntKind.i64 0])]).seq ((SC.reg [MIx.op (some 14) none (MOp.load (Opd.t 7) (some 2)),MIx.op none none (MOp.store (Opd.t 4) (Opd.t 14) 2),MIx.op none none (MOp.store (Opd.t 5) (Opd.k (AV.bool false)) 1)]).seq SC.ret))]
  [(3,AV.ptr (Pl.own N 0)),(4,AV.ptr (Pl.own (N + 1) 0)),(5,AV.ptr (Pl.own (N + 2) 0)),(8,AV.fn (Fn.func 83) [] [AV.ptr p])] h'[N + 3]? (List.set h' (N + 3) none)) r [] H := by
  intro r
  induction r with
  | nil =>
   intro hr hfd H sH g0 g1 g2 g3 H2 kp
   have f1 := kp.at_ _ _ (by simp) g1
   have f2 := kp.at_ _ _ (by simp) g2
   have f3 := kp.at_ _ _ (by simp) g3
   have s2 : aI h H2 := ⟨Nat.le_trans sH.1 kp.le,fun i b e => kp.at_ _ _ (by simp) (sH.2 _ _ e)⟩
   obtain ⟨X,eX⟩ : ∃ X,X = H2.set (N + 3) none := ⟨_,rfl⟩
   have lX : X.length = H2.length := by rw [eX,List.length_set]
   have q3 := aR f3
   have x1 : ∀ L,(X ++ L)[N + 1]? = some (some (.row [.int .i64 0,.int .i64 0])) := fun L => aD (by rw [eX,qB (by omega)]; exact f1)
   have x2 : ∀ L b,((X ++ L).set (N + 1) b)[N + 2]? = some (some (.row [.bool false])) := fun L b => by
    rw [qB (by omega)]; exact aD (by rw [eX,qB (by omega)]; exact f2)
   have x3 : ∀ L b b',(((X ++ L).set (N + 1) b).set (N + 2) b')[N + 1]? = some b := fun L b b' => by
    rw [qB (by omega),qF (by simp; omega)]
   have x4 : ∀ L b b',(((X ++ L).set (N + 1) b).set (N + 2) b')[N + 2]? = some b' := fun L b b' => by
    rw [qF (by simp; omega)]
   simp only [f3,← eX,hLB]
   simp only [go_sem,x1,x2,x3,x4]
   have s3 : aI h X := by rw [eX]; exact s2.setR (by omega)
   exact ⟨(s3.app.setR (by omega)).setR (by omega),by rw [hfd]; rfl⟩
  | cons x r ih =>
   intro hr hfd H sH g0 g1 g2 g3 H2 args O2 hO kp hO1 hO2 hV
   subst hV
   have f0 := kp.at_ _ _ (by simp) g0
   have f1 := kp.at_ _ _ (by simp) g1
   have f2 := kp.at_ _ _ (by simp) g2
   have f3 := kp.at_ _ _ (by simp) g3
   have s2 : aI h H2 := ⟨Nat.le_trans sH.1 kp.le,fun i b e => kp.at_ _ _ (by simp) (sH.2 _ _ e)⟩
   have q3 := aR f3
   have f3' := f3
   rw [hLB,← eN] at f3'
   refine nL (psl := [9]) bA rfl aAA aAz sI.eq_1 R62_0b.eq_1 f3' rfl hps hca hcb fun hb2 ha2 => ?_
   obtain ⟨LY,hLY⟩ : ∃ b,b = Blk.loop 15 [(3,AV.ptr (Pl.own N 0)),(4,AV.ptr (Pl.own (N + 1) 0)),(5,AV.ptr (Pl.own (N + 2) 0)),(8,AV.fn (Fn.func 83) [] [AV.ptr p])] #[9] (bH (cP 62) [1,0,1,0,0]) (bH (cP 62) [1,0,1,0,1]) LoopState.busy none := ⟨_,rfl⟩
   have f3a : ∀ L,(H2 ++ L)[N + 3]? = _ := fun L => aD (k := L) f3'
   simp only [go_sem,f3a]
   rw [← hLY]
   obtain ⟨Y,eY⟩ : ∃ Y,Y = (H2 ++ [some (Blk.row [AV.int IntKind.i64 x.1,AV.int IntKind.i64 x.2])]).set (N + 3) (some LY) := ⟨_,rfl⟩
   have lY : Y.length = H2.length + 1 := by rw [eY]; simp
   have old : ∀ (i : Nat) b,i ≠ N + 3 → H2[i]? = some (some b) → Y[i]? = some (some b) := fun i b hi e => by
    rw [eY,qB (fun e => hi e.symm)]; exact aD e
   have y0 := old _ _ (by omega) f0
   have y1 := old _ _ (by omega) f1
   have y2 := old _ _ (by omega) f2
   have y3 : Y[N + 3]? = some (some LY) := by rw [eY,qF (by simp; omega)]
   have y4 : Y[H2.length]? = some (some (.row [AV.int IntKind.i64 x.1,AV.int IntKind.i64 x.2])) := by
    rw [eY,qB (by omega),qI (Nat.le_refl _),Nat.sub_self]; rfl
   have sY : aI h Y := ⟨by have := s2.1; omega,fun i b e => old i b (by have := aR e; omega) (s2.2 _ _ e)⟩
   have kY : bT C H2 Y := ⟨by omega,fun i b hi e => old i b (fun e => hi (by rw [eC,e]; simp)) e⟩
   rw [← eY]
   simp only [go_sem,y0,y4]
   refine aM (hf x (hr x (by simp)) Y sY) ?_
   cases hP : P x with
   | true =>
    have y5 : ∀ b,(Y.set (N + 1) b)[N + 2]? = some (some (.row [.bool false])) := fun b => by rw [qB (by omega)]; exact y2
    have y6 : ∀ b b',((Y.set (N + 1) b).set (N + 2) b')[N + 3]? = some (some LY) := fun b b' => by rw [qB (by omega),qB (by omega)]; exact y3
    simp only [go_sem,y1,y4,y5,y6]
    refine ⟨⟨_,_,by rw [hLY]⟩,?_⟩
    refine ⟨((kY.set (.inl (by rw [eC]; simp))).set (.inl (by rw [eC]; simp))).set (.inl (by rw [eC]; simp)),.inr fun H4 k4 => ?_⟩
    subst hO
    have z1 := k4.at_ (N + 1) (.row [AV.int IntKind.i64 x.1,AV.int IntKind.i64 x.2]) (by simp) (by rw [qB (by omega),qB (by omega),qF (by omega)])
    have z2 := k4.at_ (N + 2) (.row [AV.bool true]) (by simp) (by rw [qB (by omega),qF (by simp; omega)])
    have z3 := k4.at_ (N + 3) _ (by simp) (qF (by simp; omega))
    have z4 : (H4.set (N + 3) none)[N + 1]? = some (some (.row [AV.int IntKind.i64 x.1,AV.int IntKind.i64 x.2])) := by rw [qB (by omega)]; exact z1
    have z5 : (H4.set (N + 3) none)[N + 2]? = some (some (.row [AV.bool true])) := by rw [qB (by omega)]; exact z2
    have s4 : aI h H4 := ⟨by have := k4.le; simp at this; have := sY.1; omega,fun i b e => k4.at_ _ _ (by simp) (by
     have := aR e
     rw [qB (by omega),qB (by omega),qB (by omega)]; exact sY.2 _ _ e)⟩
    simp only [go_sem,z3,z4,z5]
    exact ⟨s4.setR (by omega),by rw [hfd,List.find?_cons_of_pos hP]; rfl⟩
   | false =>
    simp only [go_sem,y3]
    refine ⟨⟨_,_,by rw [hLY]⟩,?_⟩
    refine ⟨kY.set (.inl (by rw [eC]; simp)),.inl ?_⟩
    subst hO
    refine ih (fun d hd => hr d (by simp [hd])) (by rw [hfd,List.find?_cons_of_neg (by simp [hP])]) _ (sY.setR (by omega)) ?_ ?_ ?_ ?_
    · rw [qB (by omega)]; exact y0
    · rw [qB (by omega)]; exact y1
    · rw [qB (by omega)]; exact y2
    · rw [qF (by omega),hLB,← eN]
 refine claim _ (fun _ hd => hd) rfl G0 (eG0 ▸ aI.refl.app) ?_ ?_ ?_ ?_
 all_goals
  rw [eG0,eN,qI (by omega)]; simp
def jE (o : Option ((Int × Int) × (Int × Int))) : List AV := match o with
 | some (f,d) => [.bool false,.agg [.int .i64 f.1,.int .i64 f.2,.int .i64 d.1,.int .i64 d.2]]
 | none => [.bool true,.agg [.int .i64 0,.int .i64 0,.int .i64 0,.int .i64 0]]
theorem aCt {l : List aO} (hl : l.all aZ = true) : ∀ d ∈ fW l,Bd 100 d := fun d hd => by
 rcases List.mem_append.1 hd with hd | hd
 · obtain ⟨r,hr,hd⟩ := List.mem_flatMap.1 hd
   have hR := List.all_eq_true.1 hl r hr
   simp only [aZ,inB,Bool.and_eq_true,decide_eq_true_eq] at hR
   simp only [kD,List.mem_cons,List.not_mem_nil,or_false] at hd
   unfold Bd
   rcases hd with rfl | rfl | rfl | rfl <;> simp only <;> omega
 · simp only [kE,List.mem_cons,List.not_mem_nil,or_false] at hd
   unfold Bd
   rcases hd with rfl | rfl | rfl | rfl <;> simp only <;> omega
theorem rU {w : dP} (hw : fF w = true) : ∀ f ∈ bM w,Bd 1000000 f := fun f hf => by
 simp only [fF,fD,Bool.and_eq_true,decide_eq_true_eq] at hw
 simp only [bM,List.mem_cons,List.not_mem_nil,or_false] at hf
 unfold Bd
 rcases hf with rfl | rfl | rfl | rfl <;> simp only <;> omega
theorem pc_bdd (l : List (Int × Int)) (N : Nat) : AV.bdds N (l.map pC).flatten := aP.2 fun x hx => by
 obtain ⟨c,hc,hx⟩ := List.mem_flatten.1 hx
 obtain ⟨y,_,rfl⟩ := List.mem_map.1 hc
 simp only [pC,List.mem_cons,List.not_mem_nil,or_false] at hx
 rcases hx with rfl | rfl <;> trivial
theorem hold_c (w : dP) {v : AV} {l : List aO} (hv : Sl w0 h 3 v (l.map aO.c)) (hl : l.all aZ = true) (hn : l.length ≤ 20) (hw : fF w = true) :
 bB Try.prog w0 35 [.agg w.c,v] h (.tup (jE (jF l w))) h := by
 have hbv : ∀ N,(AV.tup (jE (jF l w))).bdd N := fun N => by
  unfold jE; split <;> simp [AV.bdd,AV.bdds]
 refine eK (hbv _) (bR bA tZ zL zK (qE rfl) fun hb ha => bE ?_)
 have o := Sl.one hv
 have vb := hv.bdd (Nat.le_refl _)
 simp only [go_sem,mf35,o.1,o.2]
 refine gG (S := Nat) (F := fun i => [(3,.ptr (.own (h.length + 1) 0)),(5,.ptr (.own (h.length + 2) 0)),(38,.agg ((bM w).map pC).flatten),(39,.int .i64 i)])
  (H := fun _ => h ++ [some (.row w.c),some (.row [v]),some (.row [.int .i64 0,.int .i64 0,.int .i64 0,.int .i64 0])]) (meas := fun i => 4 - i)
  (Inv := fun i => i ≤ 4 ∧ jF l w = ((bM w).drop i).findSome? fun f => (fJ l f).map fun d => (f,d)) 0 ⟨Nat.zero_le _,rfl⟩ rfl rfl ?_
 rintro i ⟨hi,hH⟩ ih
 refine bO bA aCC [3,5,38,39] L35_0.eq_1 ?_
 by_cases hi4 : i < 4
 · have e1 : (i : Int) < 4 := by omega
   have hcl : i < (bM w).length := hi4
   have hx := yD hcl
   rw [List.drop_eq_getElem_cons hcl,List.findSome?_cons] at hH
   obtain ⟨f,hf⟩ : ∃ f,f = (bM w)[i]'hcl := ⟨_,rfl⟩
   have hfb : Bd 1000000 f := hf ▸ rU hw _ (qG hcl)
   rw [← hf] at hx hH
   simp only [go_sem,e1,hi4,hx]
   refine bF (ACall.vc (first := []) (args := [v]) (dirs_c o.2)) ?_
   rintro _ _ ⟨rfl,rfl⟩
   simp only [go_sem]
   obtain ⟨X,eX⟩ : ∃ X,X = h ++ [some (.row w.c),some (.row [v]),some (.row [.int .i64 0,.int .i64 0,.int .i64 0,.int .i64 0]),some (.row (pC f)),some (.row [v])] := ⟨_,rfl⟩
   have sX : aI h X := eX ▸ aI.refl.app
   have x1 : X[h.length + 1]? = some (some (.row [v])) := by rw [eX,qI (by omega)]; simp
   have x3 : X[h.length + 3]? = some (some (.row (pC f))) := by rw [eX,qI (by omega)]; simp
   have x4 : X[h.length + 4]? = some (some (.row [v])) := by rw [eX,qI (by omega)]; simp
   have hfirst := oH (w0 := w0) (h := X) (p := .own (h.length + 4) 0) (fv := .fn (.func 64) [] [.ptr (.own (h.length + 3) 0),.ptr (.own (h.length + 1) 0)]) (mX l f)
    (by simp [rd,x4]) (hv.sub sX) hl hn rfl fun d hd H sH => bB.vc (P := Try.prog) (first := []) (capt := [.ptr (.own (h.length + 3) 0),.ptr (.own (h.length + 1) 0)]) (aCo d f (by
     have := aCt hl d hd; unfold Bd at *; omega) hfb (by simp [rdn,sH.2 _ _ x3,pC]) (by simp [rd,sH.2 _ _ x1]) (hv.sub (sX.trans sH)) hl hn)
   rw [eX] at hfirst
   refine aM hfirst.v ?_
   rw [show (fW l).find? (mX l f) = fJ l f from rfl]
   cases hff : fJ l f with
   | some d =>
    rw [hff] at hH
    simp only [go_sem,jR]
    exact ⟨aI.refl.app,by rw [hH]; rfl⟩
   | none =>
    rw [hff] at hH
    simp only [go_sem,jR]
    refine ⟨(by unfold I64; omega),gU 3 hb (by simp [dK,dL,eI,eJ,fS,eE,AV.bdds,AV.bdd,Pl.bdd,cQ]; exact AV.bdd_mono (by omega) _ vb) (by simp [dK,dL,eI,eJ,fS,eE,AV.bdds,AV.bdd,Pl.bdd,cQ]; exact pc_bdd _ _) ?_⟩
    exact ih (i + 1) ⟨by omega,hH⟩ (by omega)
 · have e1 : ¬ (i : Int) < 4 := by omega
   obtain rfl : i = 4 := by omega
   simp only [go_sem,e1]
   rw [show (bM w).drop 4 = [] from rfl] at hH
   rw [hH]
   exact ⟨aI.refl.app,rfl⟩
theorem xC (a b lo hi : Int) : bB Try.prog w0 55 [.agg [.int .i64 a,.int .i64 b],.int .i64 lo,.int .i64 hi] h (.bool (decide (lo ≤ a) && (decide (a ≤ b) && decide (b ≤ hi)))) h := by
 refine aV bA tX zH zG (qE rfl) (by simp [AV.bdd,AV.bdds]) fun hb ha => bE ?_
 simp only [go_sem,mf55]
 exact ⟨fun x => ⟨fun y => by simp [x,y],fun y => by simp [x,y]⟩,fun x => by simp [x]⟩
theorem xT (r : aO) : bB Try.prog w0 61 [.agg r.c] h (.bool (aZ r)) h := by
 refine aV bA tV zD zC (qE rfl) (by simp [AV.bdd,AV.bdds]) fun hb ha => bE ?_
 simp only [go_sem,mf61]
 refine aM (in_c r.x (-100) 100).v ?_
 cases e1 : inB r.x (-100) 100 with
 | false => simp only [go_sem]; simp [aZ,e1]
 | true =>
 simp only [go_sem]
 refine aM (in_c r.y (-100) 100).v ?_
 cases e2 : inB r.y (-100) 100 with
 | false => simp only [go_sem]; simp [aZ,e2]
 | true =>
 by_cases q1 : r.x = 0
 · by_cases q2 : r.y = 0
   · simp only [go_sem,q1,q2]
     simp [aZ,q1,q2]
   · simp only [go_sem,q1,q2]
     refine aM (in_c r.s 0 1000000).v ?_
     simp only [go_sem]
     rw [q1] at e1
     simp [aZ,e1,e2,q1,q2]
 · simp only [go_sem,q1]
   refine aM (in_c r.s 0 1000000).v ?_
   simp only [go_sem]
   simp [aZ,e1,e2,q1]
def fM (l : List aO) (w : dP) : Int := if 8 < l.length then 3 else cond (l.all aZ && fF w) 0 2
theorem aAZ (w : dP) {v : AV} {l : List aO} (hv : Sl w0 h 3 v (l.map aO.c)) : bB Try.prog w0 34 [v,.agg w.c] h (.int .i64 (fM l w)) h := by
 refine aV bA uA zN zM (qE rfl) (by simp [AV.bdd,AV.bdds]) fun hb ha => bE ?_
 have hlen : mG v = some (.int .i64 l.length) := by have := hv.use.1; rwa [List.length_map] at this
 by_cases hL : 8 < l.length
 · have e1 : (l.length : Int) > 8 := by omega
   simp only [go_sem,mf34,hlen,e1]
   rw [fM,if_pos hL]
 have e1 : ¬ (l.length : Int) > 8 := by omega
 simp only [go_sem,mf34,hlen,e1]
 have hall := mK (w0 := w0) (h := h ++ [some (.row w.c)]) (l.map aO.c) v (.fn (.func 61) [] []) (fun j => aZ (l.getD j ⟨0,0,0⟩)) hv.app (fun c hc => by
  obtain ⟨z,_,rfl⟩ := List.mem_map.1 hc; rfl) (by rw [List.length_map]; omega) (fun j c hc _ L => by
  rw [List.getElem?_map] at hc
  obtain ⟨z,hz,rfl⟩ := qD.1 hc
  rw [aAe hz]
  exact bB.vc (P := Try.prog) (first := []) (capt := []) (xT z))
 rw [List.length_map,lF] at hall
 refine aM hall.v ?_
 rw [fM,if_neg hL]
 cases c1 : l.all aZ with
 | false => simp only [go_sem]; simp
 | true =>
 simp only [go_sem]
 have s1 : ∀ {H : aA},bB Try.prog w0 55 [.agg [.int .i64 w.xl,.int .i64 w.xh],.int .i64 (-1000000),.int .i64 1000000] H (.bool (fD w.xl w.xh)) H := xC ..
 have s2 : ∀ {H : aA},bB Try.prog w0 55 [.agg [.int .i64 w.yl,.int .i64 w.yh],.int .i64 (-1000000),.int .i64 1000000] H (.bool (fD w.yl w.yh)) H := xC ..
 refine aM s1.v ?_
 simp only [fF,Bool.true_and]
 cases c2 : fD w.xl w.xh with
 | false => simp only [go_sem]; simp
 | true =>
 simp only [go_sem]
 refine aM s2.v ?_
 cases c3 : fD w.yl w.yh with
 | false => simp only [go_sem]; simp
 | true => simp only [go_sem]; simp
def mC (l : List aO) (w : dP) : AV := if fM l w = 0 then .tup (jE (jF l w) ++ [.int .i64 0]) else .tup [.bool false,.agg [.int .i64 0,.int .i64 0,.int .i64 0,.int .i64 0],.int .i64 (fM l w)]
theorem aAC (w : dP) {v : AV} {l : List aO} (hv : Sl w0 h 3 v (l.map aO.c)) : bB Try.prog w0 15 [v,.agg w.c] h (mC l w) h := by
 have hbv : ∀ N,(mC l w).bdd N := fun N => by
  unfold mC jE; split
  · split <;> simp [AV.bdd,AV.bdds]
  · simp [AV.bdd,AV.bdds]
 refine eK (hbv _) (bR bA uB zP zO (qE rfl) fun hb ha => bE ?_)
 simp only [go_sem,mf15]
 refine aM (aAZ w hv.app).v ?_
 by_cases e : fM l w = 0
 · have hR : l.length ≤ 8 ∧ l.all aZ = true ∧ fF w = true := by
    unfold fM at e
    split at e
    · omega
    · cases h2 : l.all aZ && fF w with
      | false => rw [h2] at e; simp at e
      | true =>
       rw [Bool.and_eq_true] at h2
       exact ⟨by omega,h2⟩
   simp only [go_sem,e]
   refine aM (hold_c w hv.app hR.2.1 (by omega) hR.2.2).v ?_
   rw [mC,if_pos e]
   cases jF l w with
   | none =>
    simp only [go_sem,jE,List.cons_append,List.nil_append]
    exact aI.refl.app
   | some x =>
    simp only [go_sem,jE,List.cons_append,List.nil_append]
    exact aI.refl.app
 · simp only [go_sem,e]
   rw [mC,if_neg e]
   exact ⟨aI.refl.app,rfl⟩
theorem iW {l : List aO} {j : Nat} (hj : j < l.length) : (l.map aO.c)[j]? = some l[j].c := by rw [List.getElem?_map,qA hj]; rfl
theorem xQ {v : AV} {l : List aO} (hv : Sl w0 h 3 v (l.map aO.c)) (hn : l.length < 1000000) : bB Try.prog w0 12 [v] h (.bool (l.all aZ)) h := by
 refine aV bA aB9 mf12_b mf12_g (qE rfl) (by simp [AV.bdd,AV.bdds]) fun hb ha => bE ?_
 obtain ⟨hlen,q,hix,hrow,_⟩ := hv.use
 rw [List.length_map] at hlen hix
 have vb := hv.bdd (Nat.le_refl _)
 simp only [go_sem,mf12]
 refine oC (fun j => [(0,v),(3,.int .i64 j)]) (fun j => aZ (l.getD j ⟨0,0,0⟩) = true) l.length rfl (fun j hj hall ih => ?_) (fun hall => ?_)
 · refine bO bA uY [0,3] L12_0.eq_1 ?_
   have e1 : (j : Int) < l.length := by omega
   have e2 := hix j hj
   have e3 : ∀ L,rdn w0 (h ++ L) (q.add (j * 3)) 3 = some l[j].c := fun L => eF (hrow j _ (iW hj))
   have e3' := hrow j _ (iW hj)
   obtain ⟨r,hr⟩ : ∃ r,r = l[j] := ⟨_,rfl⟩
   rw [oG hj,← hr] at ih
   have no : aZ r = false → l.all aZ = false := fun x => by
    rw [List.all_eq_false]; exact ⟨_,qG hj,by rw [← hr,x]; simp⟩
   simp only [go_sem,hlen,e1,e2,e3,e3',← hr]
   refine aM (tA r.x (-100) 100).v ?_
   cases c1 : inB r.x (-100) 100 with
   | false => simp only [go_sem]; rw [no (by simp [aZ,c1])]
   | true =>
   simp only [go_sem]
   refine aM (tA r.y (-100) 100).v ?_
   cases c2 : inB r.y (-100) 100 with
   | false => simp only [go_sem]; rw [no (by simp [aZ,c2])]
   | true =>
   by_cases q1 : r.x = 0
   · by_cases q2 : r.y = 0
     · simp only [go_sem,q1,q2]
       rw [no (by simp [aZ,q1,q2])]
     · simp only [go_sem,q1,q2]
       refine aM (tA r.s 0 1000000).v ?_
       cases c3 : inB r.s 0 1000000 with
       | false => simp only [go_sem]; rw [no (by simp [aZ,c3])]
       | true =>
       simp only [go_sem]
       refine ⟨(by unfold I64; omega),gU 0 hb (by simp [HBs]) (by simp [dK,dL,eI,eJ,fS,eE,AV.bdds,AV.bdd,Pl.bdd,cQ]; exact vb) ?_⟩
       simpa using ih (by rw [q1] at c1; simp [aZ,q1,c1,c2,c3,q2])
   · simp only [go_sem,q1]
     refine aM (tA r.s 0 1000000).v ?_
     cases c3 : inB r.s 0 1000000 with
     | false => simp only [go_sem]; rw [no (by simp [aZ,c3])]
     | true =>
     simp only [go_sem]
     refine ⟨(by unfold I64; omega),gU 0 hb (by simp [HBs]) (by simp [dK,dL,eI,eJ,fS,eE,AV.bdds,AV.bdd,Pl.bdd,cQ]; exact vb) ?_⟩
     simpa using ih (by simp [aZ,q1,c1,c2,c3])
 · refine bO bA uY [0,3] L12_0.eq_1 ?_
   have e1 : ¬ (l.length : Int) < l.length := by omega
   have : l.all aZ = true := by rw [← lF ⟨0,0,0⟩,List.all_eq_true]; exact fun j hj => hall j (List.mem_range.1 hj)
   simp only [go_sem,hlen,e1]
   rw [this]
theorem nY (a b p : Int) (ha : -1000000000 ≤ a ∧ a ≤ 1000000000) (hb : -1000000000 ≤ b ∧ b ≤ 1000000000) (hp : 0 ≤ p ∧ p ≤ 100) : bB Try.prog w0 11 [.agg [.int .i64 a,.int .i64 b],.int .i64 p] h (.int .i64 (gF a b p)) h := by
 refine aV bA aCa mf11_b mf11_g (qE rfl) (by simp [AV.bdd,AV.bdds]) fun hb ha => bE ?_
 have w1 := sR (n := b - a) (by unfold I64; omega)
 have m1 := dG (x := b - a) (y := p) (m := 2000000000) (n := 100) (by omega) (by omega) (by omega) (by omega)
 have m2 : -(2000000000 * 100) ≤ ((b - a) * p).tdiv 100 ∧ ((b - a) * p).tdiv 100 ≤ 2000000000 * 100 := by
  obtain ⟨n,hn⟩ : ∃ n,n = (b - a) * p := ⟨_,rfl⟩
  rw [← hn] at m1 ⊢
  rcases Int.le_total 0 n with h0 | h0
  · rw [Int.tdiv_eq_ediv_of_nonneg h0]; omega
  · have := Int.neg_tdiv (a := n) (b := 100)
    have h1 : 0 ≤ -n := by omega
    rw [Int.tdiv_eq_ediv_of_nonneg h1] at this
    omega
 simp only [go_sem,mf11,w1]
 exact ⟨(by unfold I64; omega),(by unfold I64; omega),(by unfold I64; omega),rfl⟩
theorem eO : ∀ {l : List aO} {t : List Int},bU l t = true ↔ t.length = l.length ∧ ∀ (i : Nat) r x,l[i]? = some r → t[i]? = some x → 0 ≤ x ∧ x ≤ r.s
 | [],[] => by simp [bU]
 | [],x :: t => by simp [bU]
 | r :: l,[] => by simp [bU]
 | r :: l,x :: t => by
  have ih := eO (l := l) (t := t)
  simp only [bU,Bool.and_eq_true,ih,inB,decide_eq_true_eq,List.length_cons]
  constructor
  · rintro ⟨h1,h2,h3⟩
    refine ⟨by omega,fun i r' x' a b => ?_⟩
    cases i with
    | zero => simp at a b; subst a; subst b; exact h1
    | succ i => exact h3 i r' x' (by simpa using a) (by simpa using b)
  · rintro ⟨h1,h2⟩
    exact ⟨h2 0 r x rfl rfl,by omega,fun i r' x' a b => h2 (i + 1) r' x' (by simpa using a) (by simpa using b)⟩
theorem oX {v tv : AV} {l : List aO} {t : List Int} (hv : Sl w0 h 3 v (l.map aO.c)) (ht : SlI w0 h tv t) (hn : l.length < 1000000) (htn : t.length ≤ 9223372036854775807) : bB Try.prog w0 13 [v,tv] h (.bool (bU l t)) h := by
 refine aV bA aB8 mf13_b mf13_g (qE rfl) (by simp [AV.bdd,AV.bdds]) fun hb ha => bE ?_
 obtain ⟨hlen,q,hix,hrow,_⟩ := hv.use
 rw [List.length_map] at hlen hix
 have hlt := (SlI.use ht).1
 simp only [go_sem,mf13]
 refine oC (fun j => [(0,v),(1,tv),(5,.int .i64 j)]) (fun j => ∀ r x,l[j]? = some r → t[j]? = some x → 0 ≤ x ∧ x ≤ r.s) (min t.length l.length) rfl (fun j hj hall ih => ?_) (fun hall => ?_)
 · refine bO bA uX [0,1,5] L13_0.eq_1 ?_
   have hjl : j < l.length := by omega
   have hjt : j < t.length := by omega
   have e1 : (j : Int) < l.length := by omega
   have e1' : (j : Int) < t.length := by omega
   have e2 := hix j hjl
   have r0 := hrow j _ (iW hjl)
   have f2 : ∀ L,rd w0 (h ++ L) ((q.add (j * 3)).add 2) = some (.int .i64 l[j].s) := fun L => gB (nV r0 (o := 2) rfl)
   have f2' := f2 []
   rw [List.append_nil] at f2'
   obtain ⟨pt,i1,r1,r1'⟩ := ht.at_ hjt
   have no : ¬ (0 ≤ t[j] ∧ t[j] ≤ l[j].s) → bU l t = false := fun x => by
    cases e : bU l t
    · rfl
    · exact absurd ((eO.1 e).2 j _ _ (qA hjl) (qA hjt)) x
   simp only [go_sem,hlen,hlt,e1,e1',e2,f2,f2',i1,r1,r1']
   refine ⟨fun c1 => ⟨fun c2 => ?_,fun c2 => ⟨(by unfold I64; omega),ih fun r x hr hx => ?_⟩⟩,fun c1 => ?_⟩
   · rw [no (by omega)]
   · rw [qA hjl] at hr
     rw [qA hjt] at hx
     cases hr; cases hx; omega
   · rw [no (by omega)]
 · refine bO bA uX [0,1,5] L13_0.eq_1 ?_
   have key : (t.length = l.length) → bU l t = true := fun e => eO.2 ⟨e,fun i r x a b => hall i (by have := aR a; omega) r x a b⟩
   have key2 : ¬ (t.length = l.length) → bU l t = false := fun e => by
    cases e2 : bU l t
    · rfl
    · exact absurd (eO.1 e2).1 e
   by_cases hc : t.length < l.length
   · have e1 : ¬ ((min t.length l.length : Nat) : Int) < t.length := by omega
     have e2 : ¬ (t.length : Int) = l.length := by omega
     simp only [go_sem,hlen,hlt,e1,e2]
     rw [key2 (by omega)]; simp; omega
   · by_cases hc2 : l.length < t.length
     · have e1 : ((min t.length l.length : Nat) : Int) < t.length := by omega
       have e3 : ¬ ((min t.length l.length : Nat) : Int) < l.length := by omega
       have e2 : ¬ (t.length : Int) = l.length := by omega
       simp only [go_sem,hlen,hlt,e1,e2,e3]
       rw [key2 (by omega)]; simp; omega
     · have e1 : ¬ ((min t.length l.length : Nat) : Int) < t.length := by omega
       have e2 : (t.length : Int) = l.length := by omega
       simp only [go_sem,hlen,hlt,e1]
       rw [key (by omega)]; simp; omega
theorem fY : ∀ {l : List aO} {t : List Int} {j : Nat} {r : aO} {x : Int},l[j]? = some r → t[j]? = some x → aU (l.take (j + 1)) (t.take (j + 1)) = ((aU (l.take j) (t.take j)).1 + x * r.x,(aU (l.take j) (t.take j)).2 + x * r.y)
 | [],_,_,_,_,h,_ => by simp at h
 | _ :: _,[],_,_,_,_,h => by simp at h
 | r :: l,x :: t,0,r',x',h1,h2 => by
  simp at h1 h2; subst h1; subst h2
  simp [aU]
 | r :: l,x :: t,j + 1,r',x',h1,h2 => by
  have ih := fY (l := l) (t := t) (j := j) (r := r') (x := x') (by simpa using h1) (by simpa using h2)
  simp only [List.take_succ_cons,aU,ih]
  exact Prod.ext (by simp only; omega) (by simp only; omega)
theorem wY {l : List aO} (hl : l.all aZ = true) {t : List Int} (ht : ∀ (i : Nat) r x,l[i]? = some r → t[i]? = some x → 0 ≤ x ∧ x ≤ r.s) (j : Nat) (hj : j ≤ l.length) (hjt : j ≤ t.length) :
 (-(100000000 * j) ≤ (aU (l.take j) (t.take j)).1 ∧ (aU (l.take j) (t.take j)).1 ≤ 100000000 * j) ∧ -(100000000 * j) ≤ (aU (l.take j) (t.take j)).2 ∧ (aU (l.take j) (t.take j)).2 ≤ 100000000 * j := by
 induction j with
 | zero => simp [aU]
 | succ j ih =>
  have ih := ih (by omega) (by omega)
  have h1 : l[j]? = some l[j] := qA (by omega)
  have h2 : t[j]? = some t[j] := qA (by omega)
  have hx := ht j _ _ h1 h2
  have hR := List.all_eq_true.1 hl _ (qG (show j < l.length by omega))
  simp only [aZ,inB,Bool.and_eq_true,decide_eq_true_eq] at hR
  have m1 := dG (x := t[j]) (y := l[j].x) (m := 1000000) (n := 100) (by omega) (by omega) (by omega) (by omega)
  have m2 := dG (x := t[j]) (y := l[j].y) (m := 1000000) (n := 100) (by omega) (by omega) (by omega) (by omega)
  rw [fY h1 h2]
  simp only; omega
theorem sS {v tv : AV} {l : List aO} {t : List Int} (hv : Sl w0 h 3 v (l.map aO.c)) (ht : SlI w0 h tv t) (hn : l.length ≤ 20) (hl : l.all aZ = true) (hT : bU l t = true) :
 bB Try.prog w0 14 [v,tv] h (.tup [.int .i64 (aU l t).1,.int .i64 (aU l t).2]) h := by
 refine aV bA aB7 mf14_b mf14_g (qE rfl) (by simp [AV.bdd,AV.bdds]) fun hb ha => bE ?_
 obtain ⟨hlen,q,hix,hrow,_⟩ := hv.use
 rw [List.length_map] at hlen hix
 obtain ⟨hTl,hTx⟩ := eO.1 hT
 simp only [go_sem,mf14]
 refine oC (fun j => [(0,v),(1,tv),(6,.int .i64 (aU (l.take j) (t.take j)).1),(7,.int .i64 (aU (l.take j) (t.take j)).2),(8,.int .i64 j)]) (fun _ => True) l.length (by simp [aU]) (fun j hj hall ih => ?_) (fun hall => ?_)
 · refine bO bA uW [0,1,6,7,8] L14_0.eq_1 ?_
   have e1 : (j : Int) < l.length := by omega
   have e2 := hix j hj
   have r0 := hrow j _ (iW hj)
   have f0 : ∀ L,rd w0 (h ++ L) ((q.add (j * 3)).add 0) = some (.int .i64 l[j].x) := fun L => gB (nV r0 (o := 0) rfl)
   have f1 : ∀ L,rd w0 (h ++ L) ((q.add (j * 3)).add 1) = some (.int .i64 l[j].y) := fun L => gB (nV r0 (o := 1) rfl)
   have f0' := f0 []; have f1' := f1 []
   rw [List.append_nil] at f0' f1'
   obtain ⟨pt,i1,r1,r1'⟩ := ht.at_ (j := j) (by omega)
   have hjt : j < t.length := by omega
   have h1 : l[j]? = some l[j] := qA hj
   have h2 : t[j]? = some t[j] := qA hjt
   have hx := hTx j _ _ h1 h2
   have hR := List.all_eq_true.1 hl _ (qG hj)
   simp only [aZ,inB,Bool.and_eq_true,decide_eq_true_eq] at hR
   have m1 := dG (x := t[j]) (y := l[j].x) (m := 1000000) (n := 100) (by omega) (by omega) (by omega) (by omega)
   have m2 := dG (x := t[j]) (y := l[j].y) (m := 1000000) (n := 100) (by omega) (by omega) (by omega) (by omega)
   have b1 := wY hl hTx j (by omega) (by omega)
   have ih := ih trivial
   rw [fY h1 h2] at ih
   simp only [go_sem,hlen,e1,e2,f0,f1,f0',f1',i1,r1,r1']
   exact ⟨(by unfold I64; omega),(by unfold I64; omega),(by unfold I64; omega),(by unfold I64; omega),(by unfold I64; omega),ih⟩
 · refine bO bA uW [0,1,6,7,8] L14_0.eq_1 ?_
   have e1 : ¬ (l.length : Int) < l.length := by omega
   simp only [go_sem,hlen,e1]
   rw [List.take_length,show t.take l.length = t by rw [← hTl,List.take_length]]
end Go.Proofs.Ab
namespace Go.Proofs.Ab
open Go Go.Proofs
variable {w : World} {h : aA} {cs : List Value}
theorem aA0 (g : Gd w oE cs) : ∃ r : aO,cs.map inj = r.c ∧ I64 r.s := by
 obtain ⟨a,b,c,e,_,_,h3⟩ := aCn g
 exact ⟨⟨a,b,c⟩,e,h3⟩
theorem xS {v : Value} (g : Gd w (.sl oE .nil) [v]) : ∃ l : List aO,Sl w h 3 (inj v) (l.map aO.c) ∧ l.length ≤ 9223372036854775807 := by
 obtain ⟨_,_,e,h,rfl⟩ := g
 cases e
 exact pJ aO.c rfl h fun _ g => by
  obtain ⟨r,e,_⟩ := aA0 g
  exact ⟨r,e⟩
end Go.Proofs.Ab
namespace Go.Proofs.Ab
open Go Go.Proofs
variable {w0 : World} {h : aA}
attribute [local irreducible] ACall aY cX bB eB rvC lp rg dr ex un rv
theorem pN {l : List aO} {w : dP} (h1 : l.length ≤ 8) (h2 : l.all aZ = true) (h3 : fF w = true) : fM l w = 0 := by
 rw [fM,if_neg (by omega),h2,h3]; rfl
theorem mm4 (a b c d : Int) : mmV false [.int .i64 a,.int .i64 b,.int .i64 c,.int .i64 d] = some (.int .i64 (max (max (max a b) c) d)) ∧ mmV true [.int .i64 a,.int .i64 b,.int .i64 c,.int .i64 d] = some (.int .i64 (min (min (min a b) c) d)) := by
 constructor
 · simp only [mmV,mm,Bool.false_eq_true,if_false,Option.some.injEq,AV.int.injEq,true_and]
   omega
 · simp only [mmV,mm,if_true,Option.some.injEq,AV.int.injEq,true_and]
   omega
def bL (a b : Int × Int) : dP := ⟨min (-a.1) (-b.1),max (-a.1) (-b.1),min (-a.2) (-b.2),max (-a.2) (-b.2)⟩
def mV (w : dP) (p q : Int) : dP := ⟨gF w.xl w.xh p,gF w.xl w.xh q,gF w.yl w.yh p,gF w.yl w.yh q⟩
theorem oY {l : List aO} {a b : List Int} (ha : bU l a = true) (hb : bU l b = true) (hc : (aU l a).1 = (aU l b).1 ∨ (aU l a).2 = (aU l b).2) : ∀ f ∈ bM (bL (aU l a) (aU l b)),∀ d,-(dM d f) ≤ cM l d := fun f hf d => by
 refine qW (w := bL (aU l a) (aU l b)) ha hb (fun f hf => ?_) d f hf
 generalize aU l a = A at hc hf ⊢
 generalize aU l b = B at hc hf ⊢
 obtain ⟨a1,a2⟩ := A
 obtain ⟨b1,b2⟩ := B
 simp only at hc
 simp only [bM,bL,List.mem_cons,List.not_mem_nil,or_false] at hf
 have mn : ∀ x y : Int,min x y = x ∨ min x y = y := fun x y => by omega
 have mx : ∀ x y : Int,max x y = x ∨ max x y = y := fun x y => by omega
 have m1 := mn (-a1) (-b1); have m2 := mx (-a1) (-b1); have m3 := mn (-a2) (-b2); have m4 := mx (-a2) (-b2)
 rcases hf with rfl | rfl | rfl | rfl <;> simp only [Prod.mk.injEq] <;> rcases hc with hc | hc <;> subst hc
 all_goals simp only [Int.min_self,Int.max_self,true_and,and_true,or_self]
 all_goals assumption
theorem qS {v av bv : AV} {l : List aO} {a b : List Int} (lo hi : Int) (hv : Sl w0 h 3 v (l.map aO.c)) (ha : SlI w0 h av a) (hb : SlI w0 h bv b) (hn : l.length ≤ 9223372036854775807) (han : a.length ≤ 9223372036854775807) (hbn : b.length ≤ 9223372036854775807) :
 bB Try.prog w0 4 [v,av,bv,.int .i64 lo,.int .i64 hi] h (.bool true) h := by
 refine eK trivial (bR bA mf4_ok mf4_b mf4_g (qE rfl) fun hb0 ha0 => bE ?_)
 have hlen : mG v = some (.int .i64 l.length) := by have := hv.use.1; rwa [List.length_map] at this
 by_cases q1 : (l.length : Int) > 8
 · simp only [go_sem,mf4,hlen,q1]
   refine aM eG.v ?_
   simp only [go_sem]
   exact aI.refl.app
 simp only [go_sem,mf4,hlen,q1]
 rw [List.append_nil]
 refine aM (xQ hv (by omega)).v ?_
 cases hl : l.all aZ with
 | false =>
  simp only [go_sem]
  refine aM eG.v ?_
  simp only [go_sem]
  exact aI.refl
 | true =>
 simp only [go_sem]
 refine aM (oX hv ha (by omega) han).v ?_
 cases hTa : bU l a with
 | false =>
  simp only [go_sem]
  refine aM eG.v ?_
  simp only [go_sem]
  exact aI.refl
 | true =>
 simp only [go_sem]
 refine aM (oX hv hb (by omega) hbn).v ?_
 cases hTb : bU l b with
 | false =>
  simp only [go_sem]
  refine aM eG.v ?_
  simp only [go_sem]
  exact aI.refl
 | true =>
 simp only [go_sem]
 repeat' (refine And.intro (fun _ => ?_) (fun _ => ?_))
 all_goals first | (refine aM eG.v ?_; simp only [go_sem]; exact aI.refl) | skip
 rename_i p1 p2 p3
 refine aM (sS hv ha (by omega) hl hTa).v ?_
 simp only [go_sem]
 refine aM (sS hv hb (by omega) hl hTb).v ?_
 obtain ⟨A,hA⟩ : ∃ A,A = aU l a := ⟨_,rfl⟩
 obtain ⟨B,hB⟩ : ∃ B,B = aU l b := ⟨_,rfl⟩
 have hT := oY hTa hTb
 rw [← hA,← hB] at hT ⊢
 have hm := mm4 A.1 B.1 A.2 B.2
 by_cases c1 : max (max (max A.1 B.1) A.2) B.2 > 1000000
 · cases cA : A.1 != B.1 <;> cases cB : A.2 != B.2 <;>
   · simp only [go_sem,hm.1,hm.2,cA,cB,c1]
     refine aM eG.v ?_
     simp only [go_sem]
     exact aI.refl
 by_cases c2 : min (min (min A.1 B.1) A.2) B.2 < -1000000
 · cases cA : A.1 != B.1 <;> cases cB : A.2 != B.2 <;>
   · simp only [go_sem,hm.1,hm.2,cA,cB,c1,c2]
     refine aM eG.v ?_
     simp only [go_sem]
     exact aI.refl
 have d1 : A.1 ≤ 1000000 ∧ B.1 ≤ 1000000 ∧ A.2 ≤ 1000000 ∧ B.2 ≤ 1000000 := by
  simp only [gt_iff_lt,Int.not_lt,Int.max_le] at c1; exact ⟨c1.1.1.1,c1.1.1.2,c1.1.2,c1.2⟩
 have d2 : -1000000 ≤ A.1 ∧ -1000000 ≤ B.1 ∧ -1000000 ≤ A.2 ∧ -1000000 ≤ B.2 := by
  simp only [Int.not_lt,Int.le_min] at c2; exact ⟨c2.1.1.1,c2.1.1.2,c2.1.2,c2.2⟩
 have hw : fF (bL A B) = true := by
  simp only [fF,fD,bL,Bool.and_eq_true,decide_eq_true_eq]; clear c1 c2; refine ⟨⟨?_,?_,?_⟩,?_,?_,?_⟩ <;> refine decide_eq_true ?_ <;> omega
 have hle : fF (mV (bL A B) lo hi) = true := by
  have x1 : (bL A B).xl ≤ (bL A B).xh := by simp only [bL]; omega
  have y1 : (bL A B).yl ≤ (bL A B).yh := by simp only [bL]; omega
  have := eW x1 (p := lo) (by omega) (by omega)
  have := eW x1 (p := hi) (by omega) (by omega)
  have := mQ x1 (p := lo) (q := hi) (by omega) (by omega)
  have := eW y1 (p := lo) (by omega) (by omega)
  have := eW y1 (p := hi) (by omega) (by omega)
  have := mQ y1 (p := lo) (q := hi) (by omega) (by omega)
  simp only [fF,fD,Bool.and_eq_true,decide_eq_true_eq] at hw
  simp only [fF,fD,mV,Bool.and_eq_true,decide_eq_true_eq]; clear c1 c2; refine ⟨⟨?_,?_,?_⟩,?_,?_,?_⟩ <;> refine decide_eq_true ?_ <;> omega
 have e1 := pN (l := l) (w := bL A B) (by omega) hl hw
 have e2 := pN (l := l) (w := mV (bL A B) lo hi) (by omega) hl hle
 have fin : ∀ (hc : A.1 = B.1 ∨ A.2 = B.2),jF l (bL A B) = none ∧ jF l (mV (bL A B) lo hi) = none := fun hc => by
  have hT := hT hc
  refine ⟨lN.2 fun f hf d _ => hT f hf d,lN.2 fun f hf d _ => ?_⟩
  have x1 : (bL A B).xl ≤ (bL A B).xh := by simp only [bL]; omega
  have y1 : (bL A B).yl ≤ (bL A B).yh := by simp only [bL]; omega
  have b1 := eW x1 (p := lo) (by omega) (by omega)
  have b2 := eW x1 (p := hi) (by omega) (by omega)
  have b3 := eW y1 (p := lo) (by omega) (by omega)
  have b4 := eW y1 (p := hi) (by omega) (by omega)
  simp only [bM,mV,List.mem_cons,List.not_mem_nil,or_false] at hf
  refine box_le (w := bL A B) (fun c hc => hT c hc d) ?_ ?_ ?_ ?_ <;> rcases hf with rfl | rfl | rfl | rfl <;> simp only <;> omega
 cases cA : A.1 != B.1 <;> cases cB : A.2 != B.2
 case true.true =>
  simp only [go_sem,hm.1,hm.2,cA,cB,c1,c2]
  refine aM eG.v ?_
  simp only [go_sem]
  exact aI.refl
 all_goals
  have fin := fin (by simp at cA cB; simp [cA,cB])
  simp only [go_sem,hm.1,hm.2,cA,cB,c1,c2,Int.zero_sub]
  refine ⟨by clear c1 c2; unfold I64; omega,by clear c1 c2; unfold I64; omega,by clear c1 c2; unfold I64; omega,by clear c1 c2; unfold I64; omega,by clear c1 c2; unfold I64; omega,by clear c1 c2; unfold I64; omega,by clear c1 c2; unfold I64; omega,by clear c1 c2; unfold I64; omega,?_⟩
  refine aM (aAC (bL A B) hv.app).v ?_
  rw [mC,if_pos e1,fin.1]
  simp only [go_sem,jE,List.cons_append,List.nil_append]
  refine aAk bA [0,1,2,4,5,6,9,10,11,13,14,15,3,7,8,12,16,17,18,19,20] [o_ 124 (.addr (.t 15) 0),o_ 125 (.load (.t 124) (some 2)),o_ 126 (m_ 3),o_ 128 (.addr (.t 15) 0),o_ 129 (.load (.t 128) (some 2)),o_ 130 (m_ 4),o_ 133 (.addr (.t 15) 2),o_ 134 (.load (.t 133) (some 2)),o_ 135 (m_ 3),o_ 137 (.addr (.t 15) 2),o_ 138 (.load (.t 137) (some 2)),o_ 139 (m_ 4),.call (some 127) none (f_ 11) [(.t 125),(.t 126)]] [([(4,o_ 129 (.load (.t 128) (some 2))),(7,o_ 134 (.load (.t 133) (some 2))),(10,o_ 138 (.load (.t 137) (some 2)))],[.call (some 131) none (f_ 11) [(.t 129),(.t 130)]]),([(7,o_ 134 (.load (.t 133) (some 2))),(10,o_ 138 (.load (.t 137) (some 2)))],[o_ 132 (.build [(.int .i64 0),(.int .i64 0)] [(0,1,(.t 127)),(1,1,(.t 131))]),.call (some 136) none (f_ 11) [(.t 134),(.t 135)]]),([(10,o_ 138 (.load (.t 137) (some 2)))],[.call (some 140) none (f_ 11) [(.t 138),(.t 139)],o_ 141 (.build [(.int .i64 0),(.int .i64 0)] [(0,1,(.t 136)),(1,1,(.t 140))]),o_ 142 (.build [(.int .i64 0),(.int .i64 0),(.int .i64 0),(.int .i64 0)] [(0,2,(.t 132)),(2,2,(.t 141))]),o_ 19 (.alloc [(.int .i64 0),(.int .i64 0),(.int .i64 0),(.int .i64 0)]),.op none none (.store (.t 19) (.t 142) 4)])] rfl rfl (by kernel_rfl) ?_
  simp only [go_sem]
  clear c1 c2
  refine aM (nY (min (-A.1) (-B.1)) (max (-A.1) (-B.1)) lo (by omega) (by omega) (by omega)).v ?_
  simp only [go_sem,true_and]
  refine aM (nY (min (-A.1) (-B.1)) (max (-A.1) (-B.1)) hi (by omega) (by omega) (by omega)).v ?_
  simp only [go_sem,true_and]
  refine aM (nY (min (-A.2) (-B.2)) (max (-A.2) (-B.2)) lo (by omega) (by omega) (by omega)).v ?_
  simp only [go_sem,true_and]
  refine aM (nY (min (-A.2) (-B.2)) (max (-A.2) (-B.2)) hi (by omega) (by omega) (by omega)).v ?_
  simp only [go_sem,true_and]
  refine aM (aAC (mV (bL A B) lo hi) hv.app).v ?_
  rw [mC,if_pos e2,fin.2]
  simp only [go_sem,jE,List.cons_append,List.nil_append]
  refine aM eG.v ?_
  simp only [go_sem]
  exact aI.refl.app
end Go.Proofs.Ab

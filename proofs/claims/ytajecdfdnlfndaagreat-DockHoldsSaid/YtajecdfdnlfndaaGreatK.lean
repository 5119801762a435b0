/- The own layer under the proofs of this seat, part K: what calls of the program come to on an abstract heap. No condition. -/
import Derived.Test.YtajecdfdnlfndaaGreatJ
import Derived.Test.YtajecdfdnlfndaaGreatG
set_option linter.unusedSimpArgs false
set_option linter.unusedVariables false
namespace Go.Proofs.Ab
open Go Go.Proofs
variable {w0 : World} {h : aA}
attribute [local irreducible] ACall bF cU aZ dN rvC lp rg dr ex un rv
theorem in_c (x lo hi : Int) : aZ Tryz.prog w0 97 [.int .i64 x,.int .i64 lo,.int .i64 hi] h (.bool (inB x lo hi)) h := by
 refine aT aU wW aBB aBA (qE rfl) (by simp [AV.bdd,AV.bdds]) fun hb ha => aY ?_
 simp only [go_sem,mf97]
 exact ⟨fun a => by simp [inB,a],fun a => by simp [inB,a]⟩
theorem wM (x lo hi : Int) : aZ Tryz.prog w0 82 [.int .i64 x,.int .i64 lo,.int .i64 hi] h (.bool (inB x lo hi)) h := by
 refine aT aU aD4 mf82_b mf82_g (qE rfl) (by simp [AV.bdd,AV.bdds]) fun hb ha => aY ?_
 simp only [go_sem,mf82]
 exact ⟨fun a => by simp [inB,a],fun a => by simp [inB,a]⟩
theorem mQ {α : Type} {l : List α} (d : α) {p : α → Bool} : (List.range l.length).all (fun j => p (l.getD j d)) = l.all p := by
 rw [Bool.eq_iff_iff,List.all_eq_true,List.all_eq_true]
 constructor
 · intro x a ha
   obtain ⟨i,hi,rfl⟩ := List.getElem_of_mem ha
   have := x i (List.mem_range.2 hi)
   rwa [getD_at hi] at this
 · intro x j hj
   have hj := List.mem_range.1 hj
   rw [getD_at hj]
   exact x _ (qG hj)
theorem aCB {α : Type} {l : List α} {d x : α} {j : Nat} (e : l[j]? = some x) : l.getD j d = x := by simp [List.getD_eq_getElem?_getD,e]
theorem qQ {es : Nat} : ∀ {rows : List (List AV)},(∀ c ∈ rows,c.length = es) → ∀ {j : Nat} {c : List AV},rows[j]? = some c → j * es + es ≤ rows.flatten.length ∧ (rows.flatten.drop (j * es)).take es = c ∧ ∀ (o : Nat) x,c[o]? = some x → rows.flatten[j * es + o]? = some x
 | [],_,j,c,hc => by simp at hc
 | r :: rows,h,0,c,hc => by
  simp only [List.getElem?_cons_zero,Option.some.injEq] at hc; subst hc
  have hl := h r (by simp)
  subst hl
  refine ⟨by simp,by simp,fun o x hx => ?_⟩
  rw [Nat.zero_mul,Nat.zero_add,List.flatten_cons,qH (aI hx)]; exact hx
 | r :: rows,h,j + 1,c,hc => by
  have hl := h r (by simp)
  obtain ⟨a,b,e⟩ := qQ (rows := rows) (es := es) (fun x hx => h x (by simp [hx])) (j := j) (by simpa using hc)
  have e1 : (j + 1) * es = r.length + j * es := by rw [Nat.add_mul,hl]; omega
  refine ⟨by rw [e1,List.flatten_cons,List.length_append]; omega,?_,fun o x hx => ?_⟩
  · rw [e1,List.flatten_cons,← List.drop_drop,List.drop_left]; exact b
  · rw [e1,List.flatten_cons,qI (by omega)]
    have := e o x hx
    rwa [show r.length + j * es + o - r.length = j * es + o by omega]
theorem vD {n : Nat} : (if (0 : Int) ≤ (n : Int) then some (n : Int).toNat else none) = some n := by rw [if_pos (by omega),Int.toNat_natCast]
theorem nY (rows : List (List AV)) (v fv : AV) (p : Nat → Bool) (hv : Sl w0 h 3 v rows) (ho : ∀ c ∈ rows,c.all one = true) (hn : rows.length < 1000000)
 (hf : ∀ (j : Nat) c,rows[j]? = some c → (∀ i,i < j → p i = true) → ∀ L,dN Tryz.prog w0 fv [.agg c] (h ++ L) (.bool (p j)) (h ++ L)) : aZ Tryz.prog w0 121 [v,fv] h (.bool ((List.range rows.length).all p)) h := by
 refine aT aU tA xY xX (qE rfl) (by simp [AV.bdd,AV.bdds]) fun hb ha => aY ?_
 have hfb : fv.bdd h.length := by simp only [AV.bdds] at ha; exact ha.2.1
 obtain ⟨hlen,q,hix,hrow,_⟩ := hv.use
 have vb := hv.bdd (Nat.le_refl _)
 simp only [go_sem,mf121,hlen]
 refine mW (fun j => [(1,fv),(7,v),(8,.int .i64 rows.length),(9,.int .i64 j)]) (fun j => p j = true) rows.length rfl (fun j hj hall ih => ?_) (fun hall => ?_)
 · refine aV aU uB [1,7,8,9] L121_0.eq_1 ?_
   have e1 := hix j hj
   have e3 : (j : Int) < rows.length := by omega
   obtain ⟨c,hc⟩ : ∃ c,rows[j]? = some c := ⟨_,qA hj⟩
   have hl : c.length = 3 := (aDK (hrow j _ hc)).1
   have e2 : ∀ L,rdn w0 (h ++ L) (q.add (j * 3)) 3 = some c := fun L => dU (hrow j _ hc)
   have ho := ho c (List.mem_of_getElem? hc)
   obtain ⟨x0,x1,x2,rfl⟩ : ∃ x0 x1 x2,c = [x0,x1,x2] := by
    match c,hl with
    | [x0,x1,x2],_ => exact ⟨x0,x1,x2,rfl⟩
   simp only [go_sem,e1,e2,e3,ho]
   refine aK (by simpa using hf j _ hc hall [some (.row [x0,x1,x2])]) ?_
   simp only [go_sem]
   refine ⟨fun e => ?_,fun e => ⟨(by unfold I64; omega),?_⟩⟩
   · have : (List.range rows.length).all p = false := by
      rw [List.all_eq_false]; exact ⟨j,List.mem_range.2 hj,by simp [e]⟩
     rw [this]
   · refine iN 0 hb (by simp [HBs]) (by simp [eA,eB,fD,fE,gN,fB,AV.bdds,AV.bdd,Pl.bdd,dA]; exact ⟨hfb,vb⟩) ?_
     simpa using ih e
 · refine aV aU uB [1,7,8,9] L121_0.eq_1 ?_
   have e3 : ¬ (rows.length : Int) < rows.length := by omega
   simp only [go_sem,e3]
   have : (List.range rows.length).all p = true := by rw [List.all_eq_true]; exact fun x hx => hall x (List.mem_range.1 hx)
   rw [this]
end Go.Proofs.Ab
namespace Go.Proofs.Ab
open Go Go.Proofs
structure aD where
 x : Int
 y : Int
 s : Int
structure bJ where
 xl : Int
 xh : Int
 yl : Int
 yh : Int
def iA (a b : Int × Int) : Int := a.1 * b.1 + a.2 * b.2
def fO (r : aD) : Int × Int := (r.x,r.y)
def cV : List aD → Int × Int → Int
 | [],_ => 0
 | r :: l,d => r.s * max 0 (iA d (fO r)) + cV l d
def kI (l : List aD) (f d : Int × Int) : Bool := decide (cV l d < -(iA d f))
def gC (r : aD) : List (Int × Int) := [(-r.y,r.x),(r.y,-r.x),(r.x,r.y),(-r.x,-r.y)]
def kK : List (Int × Int) := [(1,0),(-1,0),(0,1),(0,-1)]
def cY (l : List aD) : List (Int × Int) := l.flatMap gC ++ kK
def cM (w : bJ) : List (Int × Int) := [(w.xl,w.yl),(w.xl,w.yh),(w.xh,w.yl),(w.xh,w.yh)]
def eJ (l : List aD) (f : Int × Int) : Option (Int × Int) := (cY l).find? (kI l f)
def bS (l : List aD) (w : bJ) : Option ((Int × Int) × (Int × Int)) := (cM w).findSome? fun f => (eJ l f).map fun d => (f,d)
def bC (r : aD) : Bool := inB r.x (-100) 100 && (inB r.y (-100) 100 && ((decide (r.x ≠ 0) || decide (r.y ≠ 0)) && inB r.s 0 1000000))
def fA (lo hi : Int) : Bool := decide (-1000000 ≤ lo) && (decide (lo ≤ hi) && decide (hi ≤ 1000000))
def fG (w : bJ) : Bool := fA w.xl w.xh && fA w.yl w.yh
theorem fQ {x y m n : Int} (h0 : -m ≤ x) (h1 : x ≤ m) (g0 : -n ≤ y) (g1 : y ≤ n) : -(m * n) ≤ x * y ∧ x * y ≤ m * n := by
 have e1 : 0 ≤ (m - x) * (n - y) := Int.mul_nonneg (by omega) (by omega)
 have e2 : 0 ≤ (m + x) * (n + y) := Int.mul_nonneg (by omega) (by omega)
 have e3 : 0 ≤ (m - x) * (n + y) := Int.mul_nonneg (by omega) (by omega)
 have e4 : 0 ≤ (m + x) * (n - y) := Int.mul_nonneg (by omega) (by omega)
 simp only [Int.sub_mul,Int.mul_sub,Int.add_mul,Int.mul_add] at e1 e2 e3 e4
 omega
theorem sA {D : Int} {r : aD} {d : Int × Int} (hr : bC r = true) (h0 : -D ≤ d.1 ∧ d.1 ≤ D) (h1 : -D ≤ d.2 ∧ d.2 ≤ D) : (-(D * 100) ≤ d.1 * r.x ∧ d.1 * r.x ≤ D * 100) ∧ (-(D * 100) ≤ d.2 * r.y ∧ d.2 * r.y ≤ D * 100) := by
 simp only [bC,inB,Bool.and_eq_true,decide_eq_true_eq] at hr
 exact ⟨fQ h0.1 h0.2 hr.1.1 hr.1.2,fQ h1.1 h1.2 hr.2.1.1 hr.2.1.2⟩
theorem kT {D : Int} {r : aD} {d : Int × Int} (hr : bC r = true) (h0 : -D ≤ d.1 ∧ d.1 ≤ D) (h1 : -D ≤ d.2 ∧ d.2 ≤ D) : 0 ≤ r.s * max 0 (iA d (fO r)) ∧ r.s * max 0 (iA d (fO r)) ≤ 1000000 * (D * 200) := by
 have h := sA hr h0 h1
 simp only [bC,inB,Bool.and_eq_true,decide_eq_true_eq] at hr
 obtain ⟨_,_,_,hs0,hs1⟩ := hr
 have hm : 0 ≤ max 0 (iA d (fO r)) ∧ max 0 (iA d (fO r)) ≤ D * 200 := by
  simp only [iA,fO]; omega
 exact ⟨Int.mul_nonneg hs0 hm.1,Int.mul_le_mul hs1 hm.2 hm.1 (by omega)⟩
theorem pX {D : Int} {d : Int × Int} (h0 : -D ≤ d.1 ∧ d.1 ≤ D) (h1 : -D ≤ d.2 ∧ d.2 ≤ D) : ∀ l : List aD,l.all bC = true → 0 ≤ cV l d ∧ cV l d ≤ l.length * (1000000 * (D * 200))
 | [],_ => by simp [cV]
 | r :: l,h => by
  simp only [List.all_cons,Bool.and_eq_true] at h
  have a := kT h.1 h0 h1
  have b := pX h0 h1 l h.2
  simp only [cV,List.length_cons,Int.natCast_add,Int.add_mul] at *
  omega
def InC (u v d : Int × Int) : Prop := ∃ k a b : Int,0 < k ∧ 0 ≤ a ∧ 0 ≤ b ∧ k * d.1 = a * u.1 + b * v.1 ∧ k * d.2 = a * u.2 + b * v.2
def NSg (u v : Int × Int) (r : aD) : Prop := (0 ≤ iA u (fO r) ∧ 0 ≤ iA v (fO r)) ∨ (iA u (fO r) ≤ 0 ∧ iA v (fO r) ≤ 0)
theorem InC.left (u v : Int × Int) : InC u v u := ⟨1,1,0,by omega,by omega,by omega,by simp,by simp⟩
theorem InC.right (u v : Int × Int) : InC u v v := ⟨1,0,1,by omega,by omega,by omega,by simp,by simp⟩
theorem InC.swap {u v d : Int × Int} (h : InC u v d) : InC v u d := by
 obtain ⟨k,a,b,hk,ha,hb,h1,h2⟩ := h
 exact ⟨k,b,a,hk,hb,ha,by omega,by omega⟩
theorem NSg.swap {u v : Int × Int} {r : aD} (h : NSg u v r) : NSg v u r := h.imp (fun x => ⟨x.2,x.1⟩) fun x => ⟨x.2,x.1⟩
def eE : List Int → List Int → Bool
 | a :: r,b :: s => if a = b then eE r s else decide (a < b)
 | _,_ => false
theorem gD (p r s : List Int) : eE (p ++ r) (p ++ s) = eE r s := by
 induction p with
 | nil => rfl
 | cons a p ih => simp [eE,ih]
end Go.Proofs.Ab
namespace Go.Proofs.Ab
open Go Go.Proofs
variable {w0 : World} {h : aA}
attribute [local irreducible] ACall bF cU aZ dN rvC lp rg dr ex un rv
theorem aA0 (a b lo hi : Int) : aZ Tryz.prog w0 115 [.agg [.int .i64 a,.int .i64 b],.int .i64 lo,.int .i64 hi] h (.bool (decide (lo ≤ a) && (decide (a ≤ b) && decide (b ≤ hi)))) h := by
 refine aT aU tC yC xZ (qE rfl) (by simp [AV.bdd,AV.bdds]) fun hb ha => aY ?_
 simp only [go_sem,mf115]
 exact ⟨fun x => ⟨fun y => by simp [x,y],fun y => by simp [x,y]⟩,fun x => by simp [x]⟩
theorem vO {α : Type} {a b : List α} (hl : a.length = b.length) (h : ∀ (i : Nat) (x y : α),a[i]? = some x → b[i]? = some y → x = y) : a = b := List.ext_getElem? fun i => by
 by_cases hi : i < a.length
 · have := h i _ _ (qA hi) (qA (hl ▸ hi))
   rw [qA hi,qA (hl ▸ hi),this]
 · rw [List.getElem?_eq_none (by omega),List.getElem?_eq_none (by omega)]
theorem aDD {x y : AV} {a b : List Int} (hx : SlI w0 h x a) (hy : SlI w0 h y b) (hn : a.length < 1000000) : aZ Tryz.prog w0 21 [x,y] h (.bool (decide (a = b))) h := by
 refine aT aU xA aBJ aBI (qE rfl) (by simp [AV.bdd,AV.bdds]) fun hb ha => aY ?_
 have la := (SlI.use hx).1
 have lb := (SlI.use hy).1
 by_cases hl : a.length = b.length
 · have e1 : ((a.length : Int) != b.length) = false := by simp [hl]
   have e1' : (a.length : Int) = b.length := by omega
   simp only [go_sem,mf21,la,lb,e1,e1']
   refine mW (fun j => [(0,x),(1,y),(5,.int .i64 j)]) (fun j => ∀ u v,a[j]? = some u → b[j]? = some v → u = v) a.length rfl (fun j hj hall ih => ?_) (fun hall => ?_)
   · refine aV aU zE [0,1,5] L21_0.eq_1 ?_
     obtain ⟨p,i1,r1,r1'⟩ := hx.at_ hj
     obtain ⟨q,i2,r2,r2'⟩ := hy.at_ (hl ▸ hj)
     have e2 : (j : Int) < b.length := by omega
     by_cases e3 : a[j] = b[j]'(hl ▸ hj)
     · simp only [go_sem,la,lb,e1',e2,i1,i2,r1,r2,r1',r2',e3]
       refine ⟨(by unfold I64; omega),ih fun u v hu hv => ?_⟩
       rw [qA hj] at hu
       rw [qA (hl ▸ hj)] at hv
       cases hu; cases hv; exact e3
     · simp only [go_sem,la,lb,e1',e2,i1,i2,r1,r2,r1',r2',e3]
       have : a ≠ b := fun e => e3 (by simp [e])
       simp [this]
   · refine aV aU zE [0,1,5] L21_0.eq_1 ?_
     have e2 : ¬ (a.length : Int) < a.length := by omega
     have : a = b := vO hl fun i u v hu hv => hall i (aI hu) u v hu hv
     simp only [go_sem,la,e2]
     simp [this]
 · have e1 : ¬ (a.length : Int) = b.length := by omega
   simp only [go_sem,mf21,la,lb,e1]
   have : a ≠ b := fun e => hl (by rw [e])
   simp [this]
@[go_sem] def aD.c (r : aD) : List AV := [.int .i64 r.x,.int .i64 r.y,.int .i64 r.s]
@[go_sem] def bJ.c (w : bJ) : List AV := [.int .i64 w.xl,.int .i64 w.xh,.int .i64 w.yl,.int .i64 w.yh]
@[go_sem] def pC (p : Int × Int) : List AV := [.int .i64 p.1,.int .i64 p.2]
def Bd (D : Int) (p : Int × Int) : Prop := (-D ≤ p.1 ∧ p.1 ≤ D) ∧ -D ≤ p.2 ∧ p.2 ≤ D
theorem by_c (p q : Int × Int) {D E : Int} (hp : Bd D p) (hq : Bd E q) (hD : D * E ≤ 1000000000000) : aZ Tryz.prog w0 126 [.agg (pC p),.agg (pC q)] h (.int .i64 (iA p q)) h := by
 refine aT aU sS xO xN (qE rfl) (by simp [AV.bdd,AV.bdds]) fun hb ha => aY ?_
 have h1 := fQ hp.1.1 hp.1.2 hq.1.1 hq.1.2
 have h2 := fQ hp.2.1 hp.2.2 hq.2.1 hq.2.2
 simp only [go_sem,mf126]
 exact ⟨(by unfold I64; omega),(by unfold I64; omega),(by unfold I64; omega),rfl⟩
theorem zZ (l m : List aD) (d : Int × Int) : cV (l ++ m) d = cV l d + cV m d := by
 induction l with
 | nil => simp [cV]
 | cons r l ih => simp only [List.cons_append,cV,ih]; omega
theorem mR {l : List aD} {j : Nat} (hj : j < l.length) (d : Int × Int) : cV (l.take (j + 1)) d = cV (l.take j) d + l[j].s * max 0 (iA d (fO l[j])) := by
 rw [List.take_succ_eq_append_getElem hj,zZ]; simp [cV]
theorem pull_c (d : Int × Int) {v : AV} {l : List aD} {D : Int} (hd : Bd D d) (hD0 : 0 ≤ D) (hD : D ≤ 10000) (hv : Sl w0 h 3 v (l.map aD.c)) (hl : l.all bC = true) (hn : l.length ≤ 20) :
 aZ Tryz.prog w0 127 [.agg (pC d),v] h (.int .i64 (cV l d)) h := by
 refine aT aU sR xM xL (qE rfl) (by simp [AV.bdd,AV.bdds]) fun hb ha => aY ?_
 obtain ⟨hlen,q,hix,hrow,_⟩ := hv.use
 rw [List.length_map] at hlen hix
 have vb := hv.bdd (Nat.le_refl _)
 simp only [go_sem,mf127,hlen]
 have key : ∀ j : Nat,0 ≤ cV (l.take j) d ∧ cV (l.take j) d ≤ 20 * (1000000 * (D * 200)) := fun j => by
  have := pX hd.1 hd.2 (l.take j) (by rw [List.all_eq_true] at hl ⊢; exact fun x hx => hl x (List.mem_of_mem_take hx))
  have h2 : ((l.take j).length : Int) * (1000000 * (D * 200)) ≤ 20 * (1000000 * (D * 200)) := Int.mul_le_mul_of_nonneg_right (by rw [List.length_take]; omega) (by omega)
  omega
 refine cD (S := Nat) (F := fun j => [(2,.ptr (.own h.length 0)),(5,.int .i64 (cV (l.take j) d)),(8,v),(9,.int .i64 l.length),(10,.int .i64 j)]) (H := fun _ => h ++ [some (.row (pC d))]) (meas := fun j => l.length - j) (Inv := fun j => j ≤ l.length) 0 (Nat.zero_le _) (by simp [cV]) rfl ?_
 intro j hj ih
 refine aV aU aC9 [2,5,8,9,10] L127_0.eq_1 ?_
 by_cases hjl : j < l.length
 · have e1 : (j : Int) < l.length := by omega
   have e2 := hix j hjl
   have hr : (l.map aD.c)[j]? = some l[j].c := by rw [List.getElem?_map,qA hjl]; rfl
   have e3 : ∀ L,rdn w0 (h ++ L) (q.add (j * 3)) 3 = some l[j].c := fun L => dU (hrow j _ hr)
   have hR := List.all_eq_true.1 hl _ (qG hjl)
   have hb1 := kT hR hd.1 hd.2
   have k1 := key j
   have hrb : Bd 100 (fO l[j]) := by
    simp only [bC,inB,Bool.and_eq_true,decide_eq_true_eq] at hR
    exact ⟨hR.1,hR.2.1⟩
   simp only [go_sem,e1,e2,e3]
   refine oT aU [0,1,2,3,4,5,6,7,8,9,10,11,12,13] [o_ 14 (m_ 5),o_ 15 (.addr (.t 7) 2),o_ 16 (l_ 15),o_ 17 (.load (.t 2) (some 2)),o_ 18 (.addr (.t 7) 0),o_ 19 (l_ 18),o_ 20 (.addr (.t 7) 1),o_ 21 (l_ 20),o_ 22 (.build [(.int .i64 0),(.int .i64 0)] [(0,1,(.t 19)),(1,1,(.t 21))]),.call (some 23) none (f_ 126) [(.t 17),(.t 22)]] [([(2,o_ 16 (l_ 15))],[o_ 24 (.minmax false [(i_ 0),(.t 23)]),o_ 25 (.bin .mul (.t 16) (.t 24)),o_ 26 (.bin .add (.t 14) (.t 25)),o_ 5 (m_ 26)])] rfl rfl (by kernel_rfl) ?_
   simp only [go_sem,e1]
   refine aK (by_c d (fO l[j]) hd hrb (by omega)).v ?_
   simp only [go_sem]
   refine ⟨(by unfold I64; omega),(by unfold I64; omega),(by unfold I64; omega),iN 1 hb (by simp [eA,eB,fD,fE,gN,fB,AV.bdds,AV.bdd,Pl.bdd,dA]) (by simp [eA,eB,fD,fE,gN,fB,AV.bdds,AV.bdd,Pl.bdd,dA]; exact AV.bdd_mono (by omega) _ vb) ?_⟩
   have := ih (j + 1) (by omega) (by omega)
   rw [mR hjl] at this
   simpa [pC] using this
 · have e1 : ¬ (j : Int) < l.length := by omega
   obtain rfl : j = l.length := by omega
   simp only [go_sem,e1]
   simp
theorem aFY (d f : Int × Int) {v : AV} {l : List aD} {p q : Pl} (hd : Bd 10000 d) (hf : Bd 1000000 f) (hp : rdn w0 h p 2 = some (pC f)) (hq : rd w0 h q = some v) (hv : Sl w0 h 3 v (l.map aD.c)) (hl : l.all bC = true) (hn : l.length ≤ 20) :
 aZ Tryz.prog w0 125 [.agg (pC d),.ptr p,.ptr q] h (.bool (kI l f d)) h := by
 refine aT aU sU xQ xP (qE rfl) (by simp [AV.bdd,AV.bdds]) fun hb ha => aY ?_
 have e1 : ∀ L,rdn w0 (h ++ L) p 2 = some (pC f) := fun L => dU hp
 have e2 : ∀ L,rd w0 (h ++ L) q = some v := fun L => eW hq
 have h1 := fQ hd.1.1 hd.1.2 hf.1.1 hf.1.2
 have h2 := fQ hd.2.1 hd.2.2 hf.2.1 hf.2.2
 simp only [go_sem,mf125]
 refine oT aU [0,1,4,5,2,3,6,7,8] [o_ 5 (.load (.t 3) (some 2)),o_ 6 (.load (.t 1) (some 2)),o_ 9 (.load (.t 3) (some 2)),o_ 10 (l_ 2),.call (some 7) none (f_ 126) [(.t 5),(.t 6)]] [([(2,o_ 9 (.load (.t 3) (some 2))),(3,o_ 10 (l_ 2))],[o_ 8 (.un .neg (.t 7)),.call (some 11) none (f_ 127) [(.t 9),(.t 10)],o_ 12 (.bin .gtr (.t 8) (.t 11)),o_ 4 (m_ 12)])] rfl rfl (by kernel_rfl) ?_
 simp only [go_sem,e1,e2]
 refine aK (by_c d f hd hf (by omega)).v ?_
 simp only [go_sem,e2]
 have hi : I64 (0 - iA d f) := by unfold I64; simp only [iA]; omega
 refine ⟨hi,?_⟩
 refine aK (pull_c d hd (by omega) (by omega) (hv.app) hl hn).v ?_
 simp only [go_sem]
 simp only [kI,Int.zero_sub]
theorem dirs_c {v : AV} (hv : cellsOf v = some [v]) : ACall Tryz.prog w0 124 [v] h fun y H => y = .fn (.func 143) [] [.ptr (.own h.length 0)] ∧ H = h ++ [some (.row [v])] := by
 refine bA aU sV xS xR (qE rfl) fun hb ha => aY ?_
 simp only [go_sem,mf124,hv]
def PV (x : Int × Int) (_ : aA) (args : List AV) : Prop := args = [.agg (pC x)]
theorem aBu {l : List (Int × Int)} {j : Nat} (hj : j < l.length) : ((((l.map pC).flatten).drop (j * 2)).take 2) = pC l[j] := by
 have := qQ (rows := l.map pC) (es := 2) (fun c hc => by obtain ⟨x,_,rfl⟩ := List.mem_map.1 hc; rfl) (j := j) (c := pC l[j]) (by rw [List.getElem?_map,qA hj]; rfl)
 exact this.2.1
theorem aF2 {C : List Nat} {q : Nat} {p : Pl} {v : AV} {l : List aD} {K : aA → Prop} (hp : rd w0 (msk C h) p = some v) (hv : Sl w0 (msk C h) 3 v (l.map aD.c)) (hl : l.all bC = true) (hn : l.length ≤ 20)
 (hI : eV Tryz.prog w0 q C PV (· = []) K (cY l) [] h) : ACall Tryz.prog w0 143 [.yld q,.ptr p] h fun _ H => K H := by
 refine bA aU sQ xK xJ (qE rfl) fun hb ha => aY ?_
 have e0 : ∀ L,rd w0 (h ++ L) p = some v := fun L => eW (yK.rd hp)
 have hlen : gJ v = some (.int .i64 l.length) := by have := hv.use.1; rwa [List.length_map] at this
 simp only [go_sem,mf143,e0,hlen]
 refine cD (S := Nat × aA) (F := fun s => [(0,.yld q),(9,v),(10,.int .i64 l.length),(11,.int .i64 s.1)]) (H := fun s => s.2) (meas := fun s => l.length - s.1)
  (Inv := fun s => s.1 ≤ l.length ∧ bZ C h s.2 ∧ eV Tryz.prog w0 q C PV (· = []) K ((l.drop s.1).flatMap gC ++ kK) [] s.2) (0,h) ⟨Nat.zero_le _,bZ.refl,by simpa [cY] using hI⟩ rfl (by simp) ?_
 rintro ⟨j,H⟩ ⟨hj,kH,iH⟩ ih
 simp only at hj kH iH ih ⊢
 refine aV aU aC7 [0,9,10,11] L143_1.eq_1 ?_
 by_cases hjl : j < l.length
 · have e1 : (j : Int) < l.length := by omega
   have hvH := hv.sub ((kH.msk (ms := C) fun i hi => .inl hi).trans (yK (ms := C)))
   obtain ⟨_,p3,hix,hrow,_⟩ := hvH.use
   rw [List.length_map] at hix
   have e2 := hix j hjl
   have hr : (l.map aD.c)[j]? = some l[j].c := by rw [List.getElem?_map,qA hjl]; rfl
   have e3 : ∀ L,rdn w0 (H ++ L) (p3.add (j * 3)) 3 = some l[j].c := fun L => dU (hrow j _ hr)
   have e3' := hrow j _ hr
   have hR := List.all_eq_true.1 hl _ (qG hjl)
   simp only [bC,inB,Bool.and_eq_true,decide_eq_true_eq] at hR
   obtain ⟨r,hr'⟩ : ∃ r,r = l[j] := ⟨_,rfl⟩
   rw [← hr'] at hR
   rw [List.drop_eq_getElem_cons hjl,List.flatMap_cons,← hr',List.append_assoc] at iH
   simp only [go_sem,e1,e2,e3,e3',← hr',Int.zero_sub]
   refine ⟨(by unfold I64; omega),(by unfold I64; omega),(by unfold I64; omega),(by unfold I64; omega),?_⟩
   refine cD (S := Nat × aA) (F := fun s => [(0,.yld q),(9,v),(10,.int .i64 l.length),(11,.int .i64 j),(39,.agg ((gC r).map pC).flatten),(40,.int .i64 s.1)]) (H := fun s => s.2) (meas := fun s => 4 - s.1)
    (Inv := fun s => s.1 ≤ 4 ∧ bZ C h s.2 ∧ eV Tryz.prog w0 q C PV (· = []) K ((gC r).drop s.1 ++ ((l.drop (j + 1)).flatMap gC ++ kK)) [] s.2) (0,_) ⟨by simp,kH.app,iH.keep aF.refl.app.toK⟩ rfl rfl ?_
   rintro ⟨i,G⟩ ⟨hi,kG,iG⟩ ih2
   simp only at hi kG iG ih2 ⊢
   refine aV aU aC8 [0,9,10,11,39,40] L143_0.eq_1 ?_
   by_cases hi4 : i < 4
   · have e4 : (i : Int) < 4 := by omega
     have hx := aBu (l := gC r) (j := i) hi4
     rw [List.drop_eq_getElem_cons (show i < (gC r).length from hi4),List.cons_append] at iG
     simp only [go_sem,e4,hi4,hx]
     refine aW (eV.call iG aF.refl.app.toK [] rfl (fun i hi => by cases hi) (fun i hi => by cases hi) rfl) ?_
     rintro y G1 ⟨k1,r1⟩
     have k2 : bZ C h G1 := kG.trans ((aF.refl.app.toK (C := C)).trans k1)
     rcases r1 with ⟨rfl,it⟩ | ⟨rfl,kk⟩
     · simp only [go_sem]
       exact ⟨(by unfold I64; omega),ih2 (i + 1,G1) ⟨by simp only; omega,k2,it⟩ (by simp only; omega)⟩
     · simp only [go_sem]
       exact kk _ bZ.refl
   · have e4 : ¬ (i : Int) < 4 := by omega
     obtain rfl : i = 4 := by omega
     simp only [go_sem,e4]
     exact ⟨(by unfold I64; omega),ih (j + 1,G) ⟨by simp only; omega,kG,iG⟩ (by simp only; omega)⟩
 · have e1 : ¬ (j : Int) < l.length := by omega
   obtain rfl : j = l.length := by omega
   rw [List.drop_length,List.flatMap_nil,List.nil_append] at iH
   simp only [go_sem,e1]
   refine cD (S := Nat × aA) (F := fun s => [(0,.yld q),(53,.agg (kK.map pC).flatten),(54,.int .i64 s.1)]) (H := fun s => s.2) (meas := fun s => 4 - s.1)
    (Inv := fun s => s.1 ≤ 4 ∧ eV Tryz.prog w0 q C PV (· = []) K (kK.drop s.1) [] s.2) (0,_) ⟨by simp,iH⟩ rfl (by simp) ?_
   rintro ⟨i,G⟩ ⟨hi,iG⟩ ih2
   simp only at hi iG ih2 ⊢
   refine aV aU aC6 [0,53,54] L143_2.eq_1 ?_
   by_cases hi4 : i < 4
   · have e4 : (i : Int) < 4 := by omega
     have hx := aBu (l := kK) (j := i) hi4
     rw [List.drop_eq_getElem_cons (show i < kK.length from hi4)] at iG
     simp only [go_sem,e4,hi4,hx]
     refine aW (eV.call iG aF.refl.app.toK [] rfl (fun i hi => by cases hi) (fun i hi => by cases hi) rfl) ?_
     rintro y G1 ⟨k1,r1⟩
     rcases r1 with ⟨rfl,it⟩ | ⟨rfl,kk⟩
     · simp only [go_sem]
       exact ⟨(by unfold I64; omega),ih2 (i + 1,G1) ⟨by simp only; omega,it⟩ (by simp only; omega)⟩
     · simp only [go_sem]
       exact kk _ bZ.refl
   · have e4 : ¬ (i : Int) < 4 := by omega
     obtain rfl : i = 4 := by omega
     simp only [go_sem,e4]
     exact iG _ bZ.refl
def kX (o : Option (Int × Int)) : AV := match o with
 | some d => .tup [.agg (pC d),.bool true]
 | none => .tup [.agg (pC (0,0)),.bool false]
theorem qR {p : Pl} {v fv : AV} {l : List aD} (P : Int × Int → Bool) (hp : rd w0 h p = some v) (hv : Sl w0 h 3 v (l.map aD.c)) (hl : l.all bC = true) (hn : l.length ≤ 20) (hfo : cellsOf fv = some [fv])
 (hf : ∀ d ∈ cY l,∀ H,aF h H → dN Tryz.prog w0 fv [.agg (pC d)] H (.bool (P d)) H) :
 aZ Tryz.prog w0 123 [.fn (.func 143) [] [.ptr p],fv] h (kX ((cY l).find? P)) h := by
 have hbv : ∀ N,(kX ((cY l).find? P)).bdd N := fun N => by unfold kX; split <;> simp [AV.bdd,AV.bdds,pC]
 refine cP (hbv _) (bA aU sW xU xT (qE rfl) fun hb ha => aY ?_)
 simp only [go_sem,mf123,hfo]
 refine wN [3,4,5,8] ?_
 simp only [go_sem]
 refine aBl (fid := 143) (first := []) rfl (.inl rfl) fun hca hcb hps => ?_
 simp only [go_sem]
 obtain ⟨N,eN⟩ : ∃ N,N = h.length := ⟨_,rfl⟩
 obtain ⟨LB,hLB⟩ : ∃ LB : LoopState → Option Code → Blk,LB = Blk.loop 15 [(3,AV.ptr (Pl.own (List.length h) 0)),(4,AV.ptr (Pl.own (List.length h + 1) 0)),(5,AV.ptr (Pl.own (List.length h + 2) 0)),(8,AV.fn (Fn.func 143) [] [AV.ptr p])] #[9] (bO (cZ 123) [1,0,1,0,0]) (bO (cZ 123) [1,0,1,0,1]) := ⟨_,rfl⟩
 rw [← hLB]
 obtain ⟨C,eC⟩ : ∃ C,C = [N + 1,N + 2,N + 3] := ⟨_,rfl⟩
 obtain ⟨G0,eG0⟩ : ∃ G0 : aA,G0 = h ++ [some (.row [fv]),some (.row [.int .i64 0,.int .i64 0]),some (.row [.bool false]),some (LB .ready none)] := ⟨_,rfl⟩
 have hm : aF h (msk C G0) := by
  rw [eG0]
  refine ⟨by rw [fR]; simp,fun i b e => ?_⟩
  have := aI e
  rw [lZ (by rw [eC]; simp; omega)]; exact aC e
 rw [← eG0,← eN]
 refine aF2 (C := C) (hm.rd hp) (hv.sub hm) hl hn ?_
 have claim : ∀ (r : List (Int × Int)),(∀ d ∈ r,d ∈ cY l) → (cY l).find? P = r.find? P → ∀ H,aF h H → H[N]? = some (some (.row [fv])) → H[N + 1]? = some (some (.row [.int .i64 0,.int .i64 0])) → H[N + 2]? = some (some (.row [.bool false])) → H[N + 3]? = some (some (LB .ready none)) →
  eV Tryz.prog w0 (N + 3) C PV (· = []) (fun h' => rgE Tryz.prog w0 none 15 N (zX w0 [RV.c 4 (some 2),RV.c 5 none] fun v' h' => aF h h' ∧ v' = kX (List.find? P (cY l)))
  [It.inBlk 0,It.code ((SC.reg [MIx.op (some 7) none (MOp.alloc [AV.int IntKind.i64 0,AV.int IntKind.i64 0])]).seq ((SC.reg [MIx.op (some 14) none (MOp.load (Opd.t 7) (some 2)),MIx.op none none (MOp.store (Opd.t 4) (Opd.t 14) 2),MIx.op none none (MOp.store (Opd.t 5) (Opd.k (AV.bool false)) 1)]).seq SC.ret))]
  [(3,AV.ptr (Pl.own N 0)),(4,AV.ptr (Pl.own (N + 1) 0)),(5,AV.ptr (Pl.own (N + 2) 0)),(8,AV.fn (Fn.func 143) [] [AV.ptr p])] h'[N + 3]? (List.set h' (N + 3) none)) r [] H := by
  intro r
  induction r with
  | nil =>
   intro hr hfd H sH g0 g1 g2 g3 H2 kp
   have f1 := kp.at_ _ _ (by simp) g1
   have f2 := kp.at_ _ _ (by simp) g2
   have f3 := kp.at_ _ _ (by simp) g3
   have s2 : aF h H2 := ⟨Nat.le_trans sH.1 kp.le,fun i b e => kp.at_ _ _ (by simp) (sH.2 _ _ e)⟩
   obtain ⟨X,eX⟩ : ∃ X,X = H2.set (N + 3) none := ⟨_,rfl⟩
   have lX : X.length = H2.length := by rw [eX,List.length_set]
   have q3 := aI f3
   have x1 : ∀ L,(X ++ L)[N + 1]? = some (some (.row [.int .i64 0,.int .i64 0])) := fun L => aC (by rw [eX,qB (by omega)]; exact f1)
   have x2 : ∀ L b,((X ++ L).set (N + 1) b)[N + 2]? = some (some (.row [.bool false])) := fun L b => by
    rw [qB (by omega)]; exact aC (by rw [eX,qB (by omega)]; exact f2)
   have x3 : ∀ L b b',(((X ++ L).set (N + 1) b).set (N + 2) b')[N + 1]? = some b := fun L b b' => by
    rw [qB (by omega),qF (by simp; omega)]
   have x4 : ∀ L b b',(((X ++ L).set (N + 1) b).set (N + 2) b')[N + 2]? = some b' := fun L b b' => by
    rw [qF (by simp; omega)]
   simp only [f3,← eX,hLB]
   simp only [go_sem,x1,x2,x3,x4]
   have s3 : aF h X := by rw [eX]; exact s2.setR (by omega)
   exact ⟨(s3.app.setR (by omega)).setR (by omega),by rw [hfd]; rfl⟩
  | cons x r ih =>
   intro hr hfd H sH g0 g1 g2 g3 H2 args O2 hO kp hO1 hO2 hV
   subst hV
   have f0 := kp.at_ _ _ (by simp) g0
   have f1 := kp.at_ _ _ (by simp) g1
   have f2 := kp.at_ _ _ (by simp) g2
   have f3 := kp.at_ _ _ (by simp) g3
   have s2 : aF h H2 := ⟨Nat.le_trans sH.1 kp.le,fun i b e => kp.at_ _ _ (by simp) (sH.2 _ _ e)⟩
   have q3 := aI f3
   have f3' := f3
   rw [hLB,← eN] at f3'
   refine pF (psl := [9]) aU rfl aAP aAO rF.eq_1 R123_0b.eq_1 f3' rfl hps hca hcb fun hb2 ha2 => ?_
   obtain ⟨LY,hLY⟩ : ∃ b,b = Blk.loop 15 [(3,AV.ptr (Pl.own N 0)),(4,AV.ptr (Pl.own (N + 1) 0)),(5,AV.ptr (Pl.own (N + 2) 0)),(8,AV.fn (Fn.func 143) [] [AV.ptr p])] #[9] (bO (cZ 123) [1,0,1,0,0]) (bO (cZ 123) [1,0,1,0,1]) LoopState.busy none := ⟨_,rfl⟩
   have f3a : ∀ L,(H2 ++ L)[N + 3]? = _ := fun L => aC (k := L) f3'
   simp only [go_sem,f3a]
   rw [← hLY]
   obtain ⟨Y,eY⟩ : ∃ Y,Y = (H2 ++ [some (Blk.row [AV.int IntKind.i64 x.1,AV.int IntKind.i64 x.2])]).set (N + 3) (some LY) := ⟨_,rfl⟩
   have lY : Y.length = H2.length + 1 := by rw [eY]; simp
   have old : ∀ (i : Nat) b,i ≠ N + 3 → H2[i]? = some (some b) → Y[i]? = some (some b) := fun i b hi e => by
    rw [eY,qB (fun e => hi e.symm)]; exact aC e
   have y0 := old _ _ (by omega) f0
   have y1 := old _ _ (by omega) f1
   have y2 := old _ _ (by omega) f2
   have y3 : Y[N + 3]? = some (some LY) := by rw [eY,qF (by simp; omega)]
   have y4 : Y[H2.length]? = some (some (.row [AV.int IntKind.i64 x.1,AV.int IntKind.i64 x.2])) := by
    rw [eY,qB (by omega),qI (Nat.le_refl _),Nat.sub_self]; rfl
   have sY : aF h Y := ⟨by have := s2.1; omega,fun i b e => old i b (by have := aI e; omega) (s2.2 _ _ e)⟩
   have kY : bZ C H2 Y := ⟨by omega,fun i b hi e => old i b (fun e => hi (by rw [eC,e]; simp)) e⟩
   rw [← eY]
   simp only [go_sem,y0,y4]
   refine aK (hf x (hr x (by simp)) Y sY) ?_
   cases hP : P x with
   | true =>
    have y5 : ∀ b,(Y.set (N + 1) b)[N + 2]? = some (some (.row [.bool false])) := fun b => by rw [qB (by omega)]; exact y2
    have y6 : ∀ b b',((Y.set (N + 1) b).set (N + 2) b')[N + 3]? = some (some LY) := fun b b' => by rw [qB (by omega),qB (by omega)]; exact y3
    simp only [go_sem,y1,y4,y5,y6]
    refine ⟨⟨_,_,by rw [hLY]⟩,?_⟩
    refine ⟨((kY.set (.inl (by rw [eC]; simp))).set (.inl (by rw [eC]; simp))).set (.inl (by rw [eC]; simp)),.inr fun H4 k4 => ?_⟩
    subst hO
    have z1 := k4.at_ (N + 1) (.row [AV.int IntKind.i64 x.1,AV.int IntKind.i64 x.2]) (by simp) (by rw [qB (by omega),qB (by omega),qF (by omega)])
    have z2 := k4.at_ (N + 2) (.row [AV.bool true]) (by simp) (by rw [qB (by omega),qF (by simp; omega)])
    have z3 := k4.at_ (N + 3) _ (by simp) (qF (by simp; omega))
    have z4 : (H4.set (N + 3) none)[N + 1]? = some (some (.row [AV.int IntKind.i64 x.1,AV.int IntKind.i64 x.2])) := by rw [qB (by omega)]; exact z1
    have z5 : (H4.set (N + 3) none)[N + 2]? = some (some (.row [AV.bool true])) := by rw [qB (by omega)]; exact z2
    have s4 : aF h H4 := ⟨by have := k4.le; simp at this; have := sY.1; omega,fun i b e => k4.at_ _ _ (by simp) (by
     have := aI e
     rw [qB (by omega),qB (by omega),qB (by omega)]; exact sY.2 _ _ e)⟩
    simp only [go_sem,z3,z4,z5]
    exact ⟨s4.setR (by omega),by rw [hfd,List.find?_cons_of_pos hP]; rfl⟩
   | false =>
    simp only [go_sem,y3]
    refine ⟨⟨_,_,by rw [hLY]⟩,?_⟩
    refine ⟨kY.set (.inl (by rw [eC]; simp)),.inl ?_⟩
    subst hO
    refine ih (fun d hd => hr d (by simp [hd])) (by rw [hfd,List.find?_cons_of_neg (by simp [hP])]) _ (sY.setR (by omega)) ?_ ?_ ?_ ?_
    · rw [qB (by omega)]; exact y0
    · rw [qB (by omega)]; exact y1
    · rw [qB (by omega)]; exact y2
    · rw [qF (by omega),hLB,← eN]
 refine claim _ (fun _ hd => hd) rfl G0 (eG0 ▸ aF.refl.app) ?_ ?_ ?_ ?_
 all_goals
  rw [eG0,eN,qI (by omega)]; simp
def cX (o : Option ((Int × Int) × (Int × Int))) : List AV := match o with
 | some (f,d) => [.bool false,.agg [.int .i64 f.1,.int .i64 f.2,.int .i64 d.1,.int .i64 d.2]]
 | none => [.bool true,.agg [.int .i64 0,.int .i64 0,.int .i64 0,.int .i64 0]]
theorem yP {l : List aD} (hl : l.all bC = true) : ∀ d ∈ cY l,Bd 100 d := fun d hd => by
 rcases List.mem_append.1 hd with hd | hd
 · obtain ⟨r,hr,hd⟩ := List.mem_flatMap.1 hd
   have hR := List.all_eq_true.1 hl r hr
   simp only [bC,inB,Bool.and_eq_true,decide_eq_true_eq] at hR
   simp only [gC,List.mem_cons,List.not_mem_nil,or_false] at hd
   unfold Bd
   rcases hd with rfl | rfl | rfl | rfl <;> simp only <;> omega
 · simp only [kK,List.mem_cons,List.not_mem_nil,or_false] at hd
   unfold Bd
   rcases hd with rfl | rfl | rfl | rfl <;> simp only <;> omega
theorem nI {w : bJ} (hw : fG w = true) : ∀ f ∈ cM w,Bd 1000000 f := fun f hf => by
 simp only [fG,fA,Bool.and_eq_true,decide_eq_true_eq] at hw
 simp only [cM,List.mem_cons,List.not_mem_nil,or_false] at hf
 unfold Bd
 rcases hf with rfl | rfl | rfl | rfl <;> simp only <;> omega
theorem pc_bdd (l : List (Int × Int)) (N : Nat) : AV.bdds N (l.map pC).flatten := aR.2 fun x hx => by
 obtain ⟨c,hc,hx⟩ := List.mem_flatten.1 hx
 obtain ⟨y,_,rfl⟩ := List.mem_map.1 hc
 simp only [pC,List.mem_cons,List.not_mem_nil,or_false] at hx
 rcases hx with rfl | rfl <;> trivial
theorem qP (w : bJ) {v : AV} {l : List aD} (hv : Sl w0 h 3 v (l.map aD.c)) (hl : l.all bC = true) (hn : l.length ≤ 20) (hw : fG w = true) :
 aZ Tryz.prog w0 80 [.agg w.c,v] h (.tup (cX (bS l w))) h := by
 have hbv : ∀ N,(AV.tup (cX (bS l w))).bdd N := fun N => by
  unfold cX; split <;> simp [AV.bdd,AV.bdds]
 refine cP (hbv _) (bA aU wX aBD aBC (qE rfl) fun hb ha => aY ?_)
 have o := Sl.one hv
 have vb := hv.bdd (Nat.le_refl _)
 simp only [go_sem,mf80,o.1,o.2]
 refine cD (S := Nat) (F := fun i => [(3,.ptr (.own (h.length + 1) 0)),(5,.ptr (.own (h.length + 2) 0)),(38,.agg ((cM w).map pC).flatten),(39,.int .i64 i)])
  (H := fun _ => h ++ [some (.row w.c),some (.row [v]),some (.row [.int .i64 0,.int .i64 0,.int .i64 0,.int .i64 0])]) (meas := fun i => 4 - i)
  (Inv := fun i => i ≤ 4 ∧ bS l w = ((cM w).drop i).findSome? fun f => (eJ l f).map fun d => (f,d)) 0 ⟨Nat.zero_le _,rfl⟩ rfl rfl ?_
 rintro i ⟨hi,hH⟩ ih
 refine aV aU aF9 [3,5,38,39] L80_0.eq_1 ?_
 by_cases hi4 : i < 4
 · have e1 : (i : Int) < 4 := by omega
   have hcl : i < (cM w).length := hi4
   have hx := aBu hcl
   rw [List.drop_eq_getElem_cons hcl,List.findSome?_cons] at hH
   obtain ⟨f,hf⟩ : ∃ f,f = (cM w)[i]'hcl := ⟨_,rfl⟩
   have hfb : Bd 1000000 f := hf ▸ nI hw _ (qG hcl)
   rw [← hf] at hx hH
   simp only [go_sem,e1,hi4,hx]
   refine aW (ACall.vc (first := []) (args := [v]) (dirs_c o.2)) ?_
   rintro _ _ ⟨rfl,rfl⟩
   simp only [go_sem]
   obtain ⟨X,eX⟩ : ∃ X,X = h ++ [some (.row w.c),some (.row [v]),some (.row [.int .i64 0,.int .i64 0,.int .i64 0,.int .i64 0]),some (.row (pC f)),some (.row [v])] := ⟨_,rfl⟩
   have sX : aF h X := eX ▸ aF.refl.app
   have x1 : X[h.length + 1]? = some (some (.row [v])) := by rw [eX,qI (by omega)]; simp
   have x3 : X[h.length + 3]? = some (some (.row (pC f))) := by rw [eX,qI (by omega)]; simp
   have x4 : X[h.length + 4]? = some (some (.row [v])) := by rw [eX,qI (by omega)]; simp
   have hfirst := qR (w0 := w0) (h := X) (p := .own (h.length + 4) 0) (fv := .fn (.func 125) [] [.ptr (.own (h.length + 3) 0),.ptr (.own (h.length + 1) 0)]) (kI l f)
    (by simp [rd,x4]) (hv.sub sX) hl hn rfl fun d hd H sH => aZ.vc (P := Tryz.prog) (first := []) (capt := [.ptr (.own (h.length + 3) 0),.ptr (.own (h.length + 1) 0)]) (aFY d f (by
     have := yP hl d hd; unfold Bd at *; omega) hfb (by simp [rdn,sH.2 _ _ x3,pC]) (by simp [rd,sH.2 _ _ x1]) (hv.sub (sX.trans sH)) hl hn)
   rw [eX] at hfirst
   refine aK hfirst.v ?_
   rw [show (cY l).find? (kI l f) = eJ l f from rfl]
   cases hff : eJ l f with
   | some d =>
    rw [hff] at hH
    simp only [go_sem,kX]
    exact ⟨aF.refl.app,by rw [hH]; rfl⟩
   | none =>
    rw [hff] at hH
    simp only [go_sem,kX]
    refine ⟨(by unfold I64; omega),iN 3 hb (by simp [eA,eB,fD,fE,gN,fB,AV.bdds,AV.bdd,Pl.bdd,dA]; exact AV.bdd_mono (by omega) _ vb) (by simp [eA,eB,fD,fE,gN,fB,AV.bdds,AV.bdd,Pl.bdd,dA]; exact pc_bdd _ _) ?_⟩
    exact ih (i + 1) ⟨by omega,hH⟩ (by omega)
 · have e1 : ¬ (i : Int) < 4 := by omega
   obtain rfl : i = 4 := by omega
   simp only [go_sem,e1]
   rw [show (cM w).drop 4 = [] from rfl] at hH
   rw [hH]
   exact ⟨aF.refl.app,rfl⟩
theorem aBk (r : aD) : aZ Tryz.prog w0 122 [.agg r.c] h (.bool (bC r)) h := by
 refine aT aU sZ xW xV (qE rfl) (by simp [AV.bdd,AV.bdds]) fun hb ha => aY ?_
 simp only [go_sem,mf122]
 refine aK (in_c r.x (-100) 100).v ?_
 cases e1 : inB r.x (-100) 100 with
 | false => simp only [go_sem]; simp [bC,e1]
 | true =>
 simp only [go_sem]
 refine aK (in_c r.y (-100) 100).v ?_
 cases e2 : inB r.y (-100) 100 with
 | false => simp only [go_sem]; simp [bC,e2]
 | true =>
 by_cases q1 : r.x = 0
 · by_cases q2 : r.y = 0
   · simp only [go_sem,q1,q2]
     simp [bC,q1,q2]
   · simp only [go_sem,q1,q2]
     refine aK (in_c r.s 0 1000000).v ?_
     simp only [go_sem]
     rw [q1] at e1
     simp [bC,e1,e2,q1,q2]
 · simp only [go_sem,q1]
   refine aK (in_c r.s 0 1000000).v ?_
   simp only [go_sem]
   simp [bC,e1,e2,q1]
def cB (l : List aD) (w : bJ) : Int := if 8 < l.length then 3 else cond (l.all bC && fG w) 0 2
theorem pQ (w : bJ) {v : AV} {l : List aD} (hv : Sl w0 h 3 v (l.map aD.c)) : aZ Tryz.prog w0 79 [v,.agg w.c] h (.int .i64 (cB l w)) h := by
 refine aT aU wY aBF aBE (qE rfl) (by simp [AV.bdd,AV.bdds]) fun hb ha => aY ?_
 have hlen : gJ v = some (.int .i64 l.length) := by have := hv.use.1; rwa [List.length_map] at this
 by_cases hL : 8 < l.length
 · have e1 : (l.length : Int) > 8 := by omega
   simp only [go_sem,mf79,hlen,e1]
   rw [cB,if_pos hL]
 have e1 : ¬ (l.length : Int) > 8 := by omega
 simp only [go_sem,mf79,hlen,e1]
 have hall := nY (w0 := w0) (h := h ++ [some (.row w.c)]) (l.map aD.c) v (.fn (.func 122) [] []) (fun j => bC (l.getD j ⟨0,0,0⟩)) hv.app (fun c hc => by
  obtain ⟨z,_,rfl⟩ := List.mem_map.1 hc; rfl) (by rw [List.length_map]; omega) (fun j c hc _ L => by
  rw [List.getElem?_map] at hc
  obtain ⟨z,hz,rfl⟩ := qD.1 hc
  rw [aCB hz]
  exact aZ.vc (P := Tryz.prog) (first := []) (capt := []) (aBk z))
 rw [List.length_map,mQ] at hall
 refine aK hall.v ?_
 rw [cB,if_neg hL]
 cases c1 : l.all bC with
 | false => simp only [go_sem]; simp
 | true =>
 simp only [go_sem]
 have s1 : ∀ {H : aA},aZ Tryz.prog w0 115 [.agg [.int .i64 w.xl,.int .i64 w.xh],.int .i64 (-1000000),.int .i64 1000000] H (.bool (fA w.xl w.xh)) H := aA0 ..
 have s2 : ∀ {H : aA},aZ Tryz.prog w0 115 [.agg [.int .i64 w.yl,.int .i64 w.yh],.int .i64 (-1000000),.int .i64 1000000] H (.bool (fA w.yl w.yh)) H := aA0 ..
 refine aK s1.v ?_
 simp only [fG,Bool.true_and]
 cases c2 : fA w.xl w.xh with
 | false => simp only [go_sem]; simp
 | true =>
 simp only [go_sem]
 refine aK s2.v ?_
 cases c3 : fA w.yl w.yh with
 | false => simp only [go_sem]; simp
 | true => simp only [go_sem]; simp
def nP (l : List aD) (w : bJ) : AV := if cB l w = 0 then .tup (cX (bS l w) ++ [.int .i64 0]) else .tup [.bool false,.agg [.int .i64 0,.int .i64 0,.int .i64 0,.int .i64 0],.int .i64 (cB l w)]
theorem Hold_c (w : bJ) {v : AV} {l : List aD} (hv : Sl w0 h 3 v (l.map aD.c)) : aZ Tryz.prog w0 28 [v,.agg w.c] h (nP l w) h := by
 have hbv : ∀ N,(nP l w).bdd N := fun N => by
  unfold nP cX; split
  · split <;> simp [AV.bdd,AV.bdds]
  · simp [AV.bdd,AV.bdds]
 refine cP (hbv _) (bA aU wZ aBH aBG (qE rfl) fun hb ha => aY ?_)
 simp only [go_sem,mf28]
 refine aK (pQ w hv.app).v ?_
 by_cases e : cB l w = 0
 · have hR : l.length ≤ 8 ∧ l.all bC = true ∧ fG w = true := by
    unfold cB at e
    split at e
    · omega
    · cases h2 : l.all bC && fG w with
      | false => rw [h2] at e; simp at e
      | true =>
       rw [Bool.and_eq_true] at h2
       exact ⟨by omega,h2⟩
   simp only [go_sem,e]
   refine aK (qP w hv.app hR.2.1 (by omega) hR.2.2).v ?_
   rw [nP,if_pos e]
   cases bS l w with
   | none =>
    simp only [go_sem,cX,List.cons_append,List.nil_append]
    exact aF.refl.app
   | some x =>
    simp only [go_sem,cX,List.cons_append,List.nil_append]
    exact aF.refl.app
 · simp only [go_sem,e]
   rw [nP,if_neg e]
   exact ⟨aF.refl.app,rfl⟩
end Go.Proofs.Ab
namespace Go.Proofs.Ab
open Go Go.Proofs
variable {w : World} {h : aA} {cs : List Value}
def vG : Rw := .int (.int (.int (.int .nil)))
theorem aFW (g : Gd w vG cs) : ∃ a b c d : Int,cs.map inj = [.int .i64 a,.int .i64 b,.int .i64 c,.int .i64 d] ∧ I64 a ∧ I64 b ∧ I64 c ∧ I64 d := by
 obtain ⟨a,_,rfl,h1,b,_,rfl,h2,c,_,rfl,h3,d,_,rfl,h4,rfl⟩ := g
 exact ⟨a,b,c,d,rfl,h1,h2,h3,h4⟩
def qM : Rw := .int (.int (.int .nil))
theorem aFX (g : Gd w qM cs) : ∃ a b c : Int,cs.map inj = [.int .i64 a,.int .i64 b,.int .i64 c] ∧ I64 a ∧ I64 b ∧ I64 c := by
 obtain ⟨a,_,rfl,h1,b,_,rfl,h2,c,_,rfl,h3,rfl⟩ := g
 exact ⟨a,b,c,rfl,h1,h2,h3⟩
theorem aDG (g : Gd w qM cs) : ∃ r : aD,cs.map inj = r.c ∧ I64 r.s := by
 obtain ⟨a,b,c,e,_,_,h3⟩ := aFX g
 exact ⟨⟨a,b,c⟩,e,h3⟩
theorem aDq (g : Gd w vG cs) : ∃ r : bJ,cs.map inj = r.c ∧ True := by
 obtain ⟨a,b,c,d,e,_⟩ := aFW g
 exact ⟨⟨a,b,c,d⟩,e,trivial⟩
theorem aBj {v : Value} (g : Gd w (.sl qM .nil) [v]) : ∃ l : List aD,Sl w h 3 (inj v) (l.map aD.c) ∧ l.length ≤ 9223372036854775807 := by
 obtain ⟨_,_,e,h,rfl⟩ := g
 cases e
 exact aBd aD.c rfl h fun _ g => by
  obtain ⟨r,e,_⟩ := aDG g
  exact ⟨r,e⟩
end Go.Proofs.Ab

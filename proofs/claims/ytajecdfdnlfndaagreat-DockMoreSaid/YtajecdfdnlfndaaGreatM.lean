/- The own layer under the proofs of this seat, part M: what calls of the program come to on an abstract heap. No condition. -/
import Derived.Test.YtajecdfdnlfndaaGreatK
set_option linter.unusedSimpArgs false
set_option linter.unusedVariables false
namespace Go.Proofs.Ab
open Go Go.Proofs
structure aK where
 x : Int
 y : Int
 s : Int
structure dL where
 xl : Int
 xh : Int
 yl : Int
 yh : Int
def bT (a b : Int × Int) : Int := a.1 * b.1 + a.2 * b.2
def bI (r : aK) : Int × Int := (r.x,r.y)
def bL : List aK → Int × Int → Int
 | [],_ => 0
 | r :: l,d => r.s * max 0 (bT d (bI r)) + bL l d
def nO (l : List aK) (f d : Int × Int) : Bool := decide (bL l d < -(bT d f))
def iR (r : aK) : List (Int × Int) := [(-r.y,r.x),(r.y,-r.x),(r.x,r.y),(-r.x,-r.y)]
def dZ : List (Int × Int) := [(1,0),(-1,0),(0,1),(0,-1)]
def fM (l : List aK) : List (Int × Int) := l.flatMap iR ++ dZ
def dT (w : dL) : List (Int × Int) := [(w.xl,w.yl),(w.xl,w.yh),(w.xh,w.yl),(w.xh,w.yh)]
def fT (l : List aK) (f : Int × Int) : Option (Int × Int) := (fM l).find? (nO l f)
def fS (l : List aK) (w : dL) : Option ((Int × Int) × (Int × Int)) := (dT w).findSome? fun f => (fT l f).map fun d => (f,d)
def aS (r : aK) : Bool := inB r.x (-100) 100 && (inB r.y (-100) 100 && ((decide (r.x ≠ 0) || decide (r.y ≠ 0)) && inB r.s 0 1000000))
def eP (lo hi : Int) : Bool := decide (-1000000 ≤ lo) && (decide (lo ≤ hi) && decide (hi ≤ 1000000))
def fF (w : dL) : Bool := eP w.xl w.xh && eP w.yl w.yh
theorem uB {l : List aK} {w : dL} : fS l w = none ↔ ∀ f ∈ dT w,∀ d ∈ fM l,-(bT d f) ≤ bL l d := by
 simp [fS,fT,nO]
theorem iD {x y m n : Int} (h0 : -m ≤ x) (h1 : x ≤ m) (g0 : -n ≤ y) (g1 : y ≤ n) : -(m * n) ≤ x * y ∧ x * y ≤ m * n := by
 have e1 : 0 ≤ (m - x) * (n - y) := Int.mul_nonneg (by omega) (by omega)
 have e2 : 0 ≤ (m + x) * (n + y) := Int.mul_nonneg (by omega) (by omega)
 have e3 : 0 ≤ (m - x) * (n + y) := Int.mul_nonneg (by omega) (by omega)
 have e4 : 0 ≤ (m + x) * (n - y) := Int.mul_nonneg (by omega) (by omega)
 simp only [Int.sub_mul,Int.mul_sub,Int.add_mul,Int.mul_add] at e1 e2 e3 e4
 omega
theorem aAR {D : Int} {r : aK} {d : Int × Int} (hr : aS r = true) (h0 : -D ≤ d.1 ∧ d.1 ≤ D) (h1 : -D ≤ d.2 ∧ d.2 ≤ D) : (-(D * 100) ≤ d.1 * r.x ∧ d.1 * r.x ≤ D * 100) ∧ (-(D * 100) ≤ d.2 * r.y ∧ d.2 * r.y ≤ D * 100) := by
 simp only [aS,inB,Bool.and_eq_true,decide_eq_true_eq] at hr
 exact ⟨iD h0.1 h0.2 hr.1.1 hr.1.2,iD h1.1 h1.2 hr.2.1.1 hr.2.1.2⟩
theorem nE {D : Int} {r : aK} {d : Int × Int} (hr : aS r = true) (h0 : -D ≤ d.1 ∧ d.1 ≤ D) (h1 : -D ≤ d.2 ∧ d.2 ≤ D) : 0 ≤ r.s * max 0 (bT d (bI r)) ∧ r.s * max 0 (bT d (bI r)) ≤ 1000000 * (D * 200) := by
 have h := aAR hr h0 h1
 simp only [aS,inB,Bool.and_eq_true,decide_eq_true_eq] at hr
 obtain ⟨_,_,_,hs0,hs1⟩ := hr
 have hm : 0 ≤ max 0 (bT d (bI r)) ∧ max 0 (bT d (bI r)) ≤ D * 200 := by
  simp only [bT,bI]; omega
 exact ⟨Int.mul_nonneg hs0 hm.1,Int.mul_le_mul hs1 hm.2 hm.1 (by omega)⟩
theorem vL {D : Int} {d : Int × Int} (h0 : -D ≤ d.1 ∧ d.1 ≤ D) (h1 : -D ≤ d.2 ∧ d.2 ≤ D) : ∀ l : List aK,l.all aS = true → 0 ≤ bL l d ∧ bL l d ≤ l.length * (1000000 * (D * 200))
 | [],_ => by simp [bL]
 | r :: l,h => by
  simp only [List.all_cons,Bool.and_eq_true] at h
  have a := nE h.1 h0 h1
  have b := vL h0 h1 l h.2
  simp only [bL,List.length_cons,Int.natCast_add,Int.add_mul] at *
  omega
def InC (u v d : Int × Int) : Prop := ∃ k a b : Int,0 < k ∧ 0 ≤ a ∧ 0 ≤ b ∧ k * d.1 = a * u.1 + b * v.1 ∧ k * d.2 = a * u.2 + b * v.2
def NSg (u v : Int × Int) (r : aK) : Prop := (0 ≤ bT u (bI r) ∧ 0 ≤ bT v (bI r)) ∨ (bT u (bI r) ≤ 0 ∧ bT v (bI r) ≤ 0)
theorem InC.left (u v : Int × Int) : InC u v u := ⟨1,1,0,by omega,by omega,by omega,by simp,by simp⟩
theorem InC.right (u v : Int × Int) : InC u v v := ⟨1,0,1,by omega,by omega,by omega,by simp,by simp⟩
theorem lU {k x : Int} (hk : 0 < k) (h : 0 ≤ k * x) : 0 ≤ x := Int.le_of_mul_le_mul_left (by simpa using h) hk
theorem tT {k x : Int} (hk : 0 < k) (h : k * x ≤ 0) : x ≤ 0 := Int.le_of_mul_le_mul_left (by simpa using h) hk
theorem InC.dot {u v d : Int × Int} {k a b : Int} (h1 : k * d.1 = a * u.1 + b * v.1) (h2 : k * d.2 = a * u.2 + b * v.2) (r : Int × Int) : k * bT d r = a * bT u r + b * bT v r := by
 simp only [bT]; grind
theorem NSg.inner {u v d : Int × Int} {r : aK} (h : NSg u v r) (hd : InC u v d) : (0 ≤ bT u (bI r) ∧ 0 ≤ bT v (bI r) ∧ 0 ≤ bT d (bI r)) ∨ (bT u (bI r) ≤ 0 ∧ bT v (bI r) ≤ 0 ∧ bT d (bI r) ≤ 0) := by
 obtain ⟨k,a,b,hk,ha,hb,h1,h2⟩ := hd
 have e := InC.dot h1 h2 (bI r)
 rcases h with ⟨p,q⟩ | ⟨p,q⟩
 · refine .inl ⟨p,q,lU hk ?_⟩
   have := Int.mul_nonneg ha p; have := Int.mul_nonneg hb q; omega
 · refine .inr ⟨p,q,tT hk ?_⟩
   have := Int.mul_nonpos_of_nonneg_of_nonpos ha p; have := Int.mul_nonpos_of_nonneg_of_nonpos hb q; omega
theorem NSg.mid {u v p : Int × Int} {r : aK} (h : NSg u v r) (hp : InC u v p) : NSg u p r ∧ NSg p v r := by
 rcases h.inner hp with ⟨a,b,c⟩ | ⟨a,b,c⟩
 · exact ⟨.inl ⟨a,c⟩,.inl ⟨c,b⟩⟩
 · exact ⟨.inr ⟨a,c⟩,.inr ⟨c,b⟩⟩
theorem InC.swap {u v d : Int × Int} (h : InC u v d) : InC v u d := by
 obtain ⟨k,a,b,hk,ha,hb,h1,h2⟩ := h
 exact ⟨k,b,a,hk,hb,ha,by omega,by omega⟩
theorem NSg.swap {u v : Int × Int} {r : aK} (h : NSg u v r) : NSg v u r := h.imp (fun x => ⟨x.2,x.1⟩) fun x => ⟨x.2,x.1⟩
theorem across {u v d : Int × Int} {r : aK} (hu : 0 < bT u (bI r)) (hv : bT v (bI r) < 0) (hr : r.x ≠ 0 ∨ r.y ≠ 0) (hd : InC u v d) :
 (InC u u d ∨ InC v v d) ∨ ∃ p,(p = (-r.y,r.x) ∨ p = (r.y,-r.x)) ∧ InC u v p ∧ (InC u p d ∨ InC p v d) := by
 obtain ⟨k,a,b,hk,ha,hb,h1,h2⟩ := hd
 obtain ⟨P,hP⟩ : ∃ P,P = bT u (bI r) := ⟨_,rfl⟩
 obtain ⟨Q,hQ⟩ : ∃ Q,Q = -bT v (bI r) := ⟨_,rfl⟩
 have p0 : 0 < P := by omega
 have q0 : 0 < Q := by omega
 obtain ⟨w1,hw1⟩ : ∃ w,w = Q * u.1 + P * v.1 := ⟨_,rfl⟩
 obtain ⟨w2,hw2⟩ : ∃ w,w = Q * u.2 + P * v.2 := ⟨_,rfl⟩
 obtain ⟨n,hn⟩ : ∃ n,n = r.x * r.x + r.y * r.y := ⟨_,rfl⟩
 obtain ⟨D,hD⟩ : ∃ D,D = r.x * w2 - r.y * w1 := ⟨_,rfl⟩
 have n0 : 0 < n := by
  have sq : ∀ z : Int,0 ≤ z * z := fun z => (Int.le_total 0 z).elim (fun h => Int.mul_nonneg h h) fun h => Int.mul_nonneg_of_nonpos_of_nonpos h h
  have sp : ∀ z : Int, z ≠ 0 → 0 < z * z := fun z hz => by have := sq z; have : z * z ≠ 0 := by simpa using hz
                                                           omega
  have := sq r.x; have := sq r.y
  rcases hr with h | h
  · have := sp _ h; omega
  · have := sp _ h; omega
 have hz : w1 * r.x + w2 * r.y = 0 := by simp only [bT,bI] at hP hQ; grind
 have e1 : n * w1 = -(r.y * D) := by grind
 have e2 : n * w2 = r.x * D := by grind
 have key : ∀ M : Int,0 < M → ∀ p : Int × Int,M * p.1 = n * w1 → M * p.2 = n * w2 → InC u v p ∧ (InC u p d ∨ InC p v d) := by
  intro M hM p g1 g2
  refine ⟨⟨M,n * Q,n * P,hM,Int.le_of_lt (Int.mul_pos n0 q0),Int.le_of_lt (Int.mul_pos n0 p0),by grind,by grind⟩,?_⟩
  rcases Int.le_total 0 (a * P - b * Q) with hs | hs
  · exact .inl ⟨n * (P * k),n * (a * P - b * Q),b * M,Int.mul_pos n0 (Int.mul_pos p0 hk),Int.mul_nonneg (Int.le_of_lt n0) hs,Int.mul_nonneg hb (Int.le_of_lt hM),by grind,by grind⟩
  · exact .inr ⟨n * (Q * k),a * M,n * (b * Q - a * P),Int.mul_pos n0 (Int.mul_pos q0 hk),Int.mul_nonneg ha (Int.le_of_lt hM),Int.mul_nonneg (Int.le_of_lt n0) (by omega),by grind,by grind⟩
 rcases Int.lt_trichotomy D 0 with hd0 | hd0 | hd0
 · exact .inr ⟨_,.inr rfl,key (-D) (by omega) (r.y,-r.x) (by simp only; grind) (by simp only; grind)⟩
 · left
   have z1 : w1 = 0 := by have : n * w1 = 0 := by rw [e1, hd0]; simp
                          exact (Int.mul_eq_zero.1 this).resolve_left (by omega)
   have z2 : w2 = 0 := by have : n * w2 = 0 := by rw [e2, hd0]; simp
                          exact (Int.mul_eq_zero.1 this).resolve_left (by omega)
   rcases Int.le_total 0 (a * P - b * Q) with hs | hs
   · exact .inl ⟨P * k,a * P - b * Q,0,Int.mul_pos p0 hk,hs,by omega,by grind,by grind⟩
   · exact .inr ⟨Q * k,b * Q - a * P,0,Int.mul_pos q0 hk,by omega,by omega,by grind,by grind⟩
 · exact .inr ⟨_,.inl rfl,key D hd0 (-r.y,r.x) (by simp only; grind) (by simp only; grind)⟩
theorem cone {S : Int × Int → Prop} {d : Int × Int} : ∀ (l done : List aK) (u v : Int × Int),(∀ r ∈ l,(r.x ≠ 0 ∨ r.y ≠ 0) ∧ S (-r.y,r.x) ∧ S (r.y,-r.x)) → S u → S v → InC u v d → (∀ r ∈ done,NSg u v r) →
 ∃ u v,S u ∧ S v ∧ InC u v d ∧ (∀ r ∈ done,NSg u v r) ∧ ∀ r ∈ l,NSg u v r
 | [],done,u,v,_,hu,hv,hd,hn => ⟨u,v,hu,hv,hd,hn,by simp⟩
 | r :: l,done,u,v,hl,hu,hv,hd,hn => by
  have hr := hl r (by simp)
  have go : ∀ u v,S u → S v → InC u v d → (∀ r ∈ done,NSg u v r) → NSg u v r → ∃ u v,S u ∧ S v ∧ InC u v d ∧ (∀ r ∈ done,NSg u v r) ∧ ∀ x ∈ r :: l,NSg u v x := by
   intro u v hu hv hd hn h
   obtain ⟨u',v',a,b,c,e,f⟩ := cone l (r :: done) u v (fun x hx => hl x (by simp [hx])) hu hv hd (by simpa using ⟨h,hn⟩)
   rw [List.forall_mem_cons] at e
   exact ⟨u',v',a,b,c,e.2,by simpa using ⟨e.1,f⟩⟩
  have go2 : ∀ u v,S u → S v → InC u v d → (∀ r ∈ done,NSg u v r) → 0 < bT u (bI r) → bT v (bI r) < 0 → ∃ u v,S u ∧ S v ∧ InC u v d ∧ (∀ r ∈ done,NSg u v r) ∧ ∀ x ∈ r :: l,NSg u v x := by
   intro u v hu hv hd hn h1 h2
   have self : ∀ (w : Int × Int) (x : aK),NSg w w x := fun w x => (Int.le_total 0 (bT w (bI x))).elim (fun h => .inl ⟨h,h⟩) fun h => .inr ⟨h,h⟩
   rcases across h1 h2 hr.1 hd with (h | h) | ⟨p,hp,hp1,h⟩
   · exact go u u hu hu h (fun x _ => self u x) (self u r)
   · exact go v v hv hv h (fun x _ => self v x) (self v r)
   · have sp : S p := hp.elim (fun e => e ▸ hr.2.1) fun e => e ▸ hr.2.2
     have zp : bT p (bI r) = 0 := by rcases hp with rfl | rfl <;> · simp only [bT,bI]; grind
     rcases h with h | h
     · exact go u p hu sp h (fun x hx => ((hn x hx).mid hp1).1) (.inl ⟨by omega,by omega⟩)
     · exact go p v sp hv h (fun x hx => ((hn x hx).mid hp1).2) (.inr ⟨by omega,by omega⟩)
  rcases Int.lt_trichotomy (bT u (bI r)) 0 with h1 | h1 | h1 <;> rcases Int.lt_trichotomy (bT v (bI r)) 0 with h2 | h2 | h2
  · exact go u v hu hv hd hn (.inr ⟨by omega,by omega⟩)
  · exact go u v hu hv hd hn (.inr ⟨by omega,by omega⟩)
  · exact go2 v u hv hu hd.swap (fun x hx => (hn x hx).swap) h2 h1
  · exact go u v hu hv hd hn (.inr ⟨by omega,by omega⟩)
  · exact go u v hu hv hd hn (.inr ⟨by omega,by omega⟩)
  · exact go u v hu hv hd hn (.inl ⟨by omega,by omega⟩)
  · exact go2 u v hu hv hd hn h1 h2
  · exact go u v hu hv hd hn (.inl ⟨by omega,by omega⟩)
  · exact go u v hu hv hd hn (.inl ⟨by omega,by omega⟩)
theorem nG {u v d : Int × Int} {k a b : Int} (hk : 0 < k) (ha : 0 ≤ a) (hb : 0 ≤ b) (h1 : k * d.1 = a * u.1 + b * v.1) (h2 : k * d.2 = a * u.2 + b * v.2) : ∀ l : List aK,(∀ r ∈ l,NSg u v r) → k * bL l d = a * bL l u + b * bL l v
 | [],_ => by simp [bL]
 | r :: l,h => by
  have ih := nG hk ha hb h1 h2 l fun x hx => h x (by simp [hx])
  have hi := (h r (by simp)).inner ⟨k,a,b,hk,ha,hb,h1,h2⟩
  have e := InC.dot h1 h2 (bI r)
  simp only [bL]
  rcases hi with ⟨p,q,s⟩ | ⟨p,q,s⟩
  · rw [Int.max_eq_right p,Int.max_eq_right q,Int.max_eq_right s]; grind
  · rw [Int.max_eq_left p,Int.max_eq_left q,Int.max_eq_left s]; grind
theorem sZ (d : Int × Int) : ∃ u v,u ∈ dZ ∧ v ∈ dZ ∧ InC u v d := by
 rcases Int.le_total 0 d.1 with h1 | h1 <;> rcases Int.le_total 0 d.2 with h2 | h2
 · exact ⟨(1,0),(0,1),by simp [dZ],by simp [dZ],1,d.1,d.2,by omega,h1,h2,by simp,by simp⟩
 · exact ⟨(1,0),(0,-1),by simp [dZ],by simp [dZ],1,d.1,-d.2,by omega,h1,by omega,by simp,by simp⟩
 · exact ⟨(-1,0),(0,1),by simp [dZ],by simp [dZ],1,-d.1,d.2,by omega,by omega,h2,by simp,by simp⟩
 · exact ⟨(-1,0),(0,-1),by simp [dZ],by simp [dZ],1,-d.1,-d.2,by omega,by omega,by omega,by simp,by simp⟩
theorem aAW {l : List aK} {f : Int × Int} (hl : l.all aS = true) (h : ∀ d ∈ fM l,-(bT d f) ≤ bL l d) (d : Int × Int) : -(bT d f) ≤ bL l d := by
 obtain ⟨u,v,hu,hv,hd⟩ := sZ d
 obtain ⟨u,v,hu,hv,⟨k,a,b,hk,ha,hb,h1,h2⟩,_,hn⟩ := cone (S := fun x => x ∈ fM l) l [] u v (fun r hr => by
  have := List.all_eq_true.1 hl r hr
  simp only [aS,Bool.and_eq_true,Bool.or_eq_true,decide_eq_true_eq] at this
  refine ⟨this.2.2.1,List.mem_append_left _ (List.mem_flatMap.2 ⟨r,hr,by simp [iR]⟩),List.mem_append_left _ (List.mem_flatMap.2 ⟨r,hr,by simp [iR]⟩)⟩) (List.mem_append_right _ hu) (List.mem_append_right _ hv) hd (by simp)
 have e := nG hk ha hb h1 h2 l hn
 have e2 := InC.dot h1 h2 f
 have g1 := Int.mul_nonneg ha (show 0 ≤ bL l u + bT u f by have := h u hu; omega)
 have g2 := Int.mul_nonneg hb (show 0 ≤ bL l v + bT v f by have := h v hv; omega)
 have := lU hk (x := bL l d + bT d f) (by rw [Int.mul_add] at g1 g2 ⊢; omega)
 omega
end Go.Proofs.Ab
namespace Go.Proofs.Ab
open Go Go.Proofs
variable {w0 : World} {h : aA}
attribute [local irreducible] ACall bC cT aU cV rvC lp rg dr ex un rv
@[go_sem] def aK.c (r : aK) : List AV := [.int .i64 r.x,.int .i64 r.y,.int .i64 r.s]
@[go_sem] def dL.c (w : dL) : List AV := [.int .i64 w.xl,.int .i64 w.xh,.int .i64 w.yl,.int .i64 w.yh]
@[go_sem] def pC (p : Int × Int) : List AV := [.int .i64 p.1,.int .i64 p.2]
def Bd (D : Int) (p : Int × Int) : Prop := (-D ≤ p.1 ∧ p.1 ≤ D) ∧ -D ≤ p.2 ∧ p.2 ≤ D
theorem by_c (p q : Int × Int) {D E : Int} (hp : Bd D p) (hq : Bd E q) (hD : D * E ≤ 1000000000000) : aU Tryz.prog w0 126 [.agg (pC p),.agg (pC q)] h (.int .i64 (bT p q)) h := by
 refine aO aV rE wM wL (qE rfl) (by simp [AV.bdd,AV.bdds]) fun hb ha => aY ?_
 have h1 := iD hp.1.1 hp.1.2 hq.1.1 hq.1.2
 have h2 := iD hp.2.1 hp.2.2 hq.2.1 hq.2.2
 simp only [go_sem,mf126]
 exact ⟨(by unfold I64; omega),(by unfold I64; omega),(by unfold I64; omega),rfl⟩
theorem nH (l m : List aK) (d : Int × Int) : bL (l ++ m) d = bL l d + bL m d := by
 induction l with
 | nil => simp [bL]
 | cons r l ih => simp only [List.cons_append,bL,ih]; omega
theorem tR {l : List aK} {j : Nat} (hj : j < l.length) (d : Int × Int) : bL (l.take (j + 1)) d = bL (l.take j) d + l[j].s * max 0 (bT d (bI l[j])) := by
 rw [List.take_succ_eq_append_getElem hj,nH]; simp [bL]
theorem pull_c (d : Int × Int) {v : AV} {l : List aK} {D : Int} (hd : Bd D d) (hD0 : 0 ≤ D) (hD : D ≤ 10000) (hv : Sl w0 h 3 v (l.map aK.c)) (hl : l.all aS = true) (hn : l.length ≤ 20) :
 aU Tryz.prog w0 127 [.agg (pC d),v] h (.int .i64 (bL l d)) h := by
 refine aO aV rD wK wJ (qE rfl) (by simp [AV.bdd,AV.bdds]) fun hb ha => aY ?_
 obtain ⟨hlen,q,hix,hrow,_⟩ := hv.use
 rw [List.length_map] at hlen hix
 have vb := hv.bdd (Nat.le_refl _)
 simp only [go_sem,mf127,hlen]
 have key : ∀ j : Nat,0 ≤ bL (l.take j) d ∧ bL (l.take j) d ≤ 20 * (1000000 * (D * 200)) := fun j => by
  have := vL hd.1 hd.2 (l.take j) (by rw [List.all_eq_true] at hl ⊢; exact fun x hx => hl x (List.mem_of_mem_take hx))
  have h2 : ((l.take j).length : Int) * (1000000 * (D * 200)) ≤ 20 * (1000000 * (D * 200)) := Int.mul_le_mul_of_nonneg_right (by rw [List.length_take]; omega) (by omega)
  omega
 refine eL (S := Nat) (F := fun j => [(2,.ptr (.own h.length 0)),(5,.int .i64 (bL (l.take j) d)),(8,v),(9,.int .i64 l.length),(10,.int .i64 j)]) (H := fun _ => h ++ [some (.row (pC d))]) (meas := fun j => l.length - j) (Inv := fun j => j ≤ l.length) 0 (Nat.zero_le _) (by simp [bL]) rfl ?_
 intro j hj ih
 refine bF aV aCq [2,5,8,9,10] L127_0.eq_1 ?_
 by_cases hjl : j < l.length
 · have e1 : (j : Int) < l.length := by omega
   have e2 := hix j hjl
   have hr : (l.map aK.c)[j]? = some l[j].c := by rw [List.getElem?_map,qA hjl]; rfl
   have e3 : ∀ L,rdn w0 (h ++ L) (q.add (j * 3)) 3 = some l[j].c := fun L => cK (hrow j _ hr)
   have hR := List.all_eq_true.1 hl _ (qG hjl)
   have hb1 := nE hR hd.1 hd.2
   have k1 := key j
   have hrb : Bd 100 (bI l[j]) := by
    simp only [aS,inB,Bool.and_eq_true,decide_eq_true_eq] at hR
    exact ⟨hR.1,hR.2.1⟩
   simp only [go_sem,e1,e2,e3]
   refine aB8 aV [0,1,2,3,4,5,6,7,8,9,10,11,12,13] [o_ 14 (m_ 5),o_ 15 (.addr (.t 7) 2),o_ 16 (l_ 15),o_ 17 (.load (.t 2) (some 2)),o_ 18 (.addr (.t 7) 0),o_ 19 (l_ 18),o_ 20 (.addr (.t 7) 1),o_ 21 (l_ 20),o_ 22 (.build [(.int .i64 0),(.int .i64 0)] [(0,1,(.t 19)),(1,1,(.t 21))]),.call (some 23) none (f_ 126) [(.t 17),(.t 22)]] [([(2,o_ 16 (l_ 15))],[o_ 24 (.minmax false [(i_ 0),(.t 23)]),o_ 25 (.bin .mul (.t 16) (.t 24)),o_ 26 (.bin .add (.t 14) (.t 25)),o_ 5 (m_ 26)])] rfl rfl (by kernel_rfl) ?_
   simp only [go_sem,e1]
   refine aI (by_c d (bI l[j]) hd hrb (by omega)).v ?_
   simp only [go_sem]
   refine ⟨(by unfold I64; omega),(by unfold I64; omega),(by unfold I64; omega),fJ 1 hb (by simp [cR,cS,dV,dW,fD,dN,AV.bdds,AV.bdd,Pl.bdd,cC]) (by simp [cR,cS,dV,dW,fD,dN,AV.bdds,AV.bdd,Pl.bdd,cC]; exact AV.bdd_mono (by omega) _ vb) ?_⟩
   have := ih (j + 1) (by omega) (by omega)
   rw [tR hjl] at this
   simpa [pC] using this
 · have e1 : ¬ (j : Int) < l.length := by omega
   obtain rfl : j = l.length := by omega
   simp only [go_sem,e1]
   simp
theorem aEu (d f : Int × Int) {v : AV} {l : List aK} {p q : Pl} (hd : Bd 10000 d) (hf : Bd 1000000 f) (hp : rdn w0 h p 2 = some (pC f)) (hq : rd w0 h q = some v) (hv : Sl w0 h 3 v (l.map aK.c)) (hl : l.all aS = true) (hn : l.length ≤ 20) :
 aU Tryz.prog w0 125 [.agg (pC d),.ptr p,.ptr q] h (.bool (nO l f d)) h := by
 refine aO aV rF wO wN (qE rfl) (by simp [AV.bdd,AV.bdds]) fun hb ha => aY ?_
 have e1 : ∀ L,rdn w0 (h ++ L) p 2 = some (pC f) := fun L => cK hp
 have e2 : ∀ L,rd w0 (h ++ L) q = some v := fun L => fW hq
 have h1 := iD hd.1.1 hd.1.2 hf.1.1 hf.1.2
 have h2 := iD hd.2.1 hd.2.2 hf.2.1 hf.2.2
 simp only [go_sem,mf125]
 refine aB8 aV [0,1,4,5,2,3,6,7,8] [o_ 5 (.load (.t 3) (some 2)),o_ 6 (.load (.t 1) (some 2)),o_ 9 (.load (.t 3) (some 2)),o_ 10 (l_ 2),.call (some 7) none (f_ 126) [(.t 5),(.t 6)]] [([(2,o_ 9 (.load (.t 3) (some 2))),(3,o_ 10 (l_ 2))],[o_ 8 (.un .neg (.t 7)),.call (some 11) none (f_ 127) [(.t 9),(.t 10)],o_ 12 (.bin .gtr (.t 8) (.t 11)),o_ 4 (m_ 12)])] rfl rfl (by kernel_rfl) ?_
 simp only [go_sem,e1,e2]
 refine aI (by_c d f hd hf (by omega)).v ?_
 simp only [go_sem,e2]
 have hi : I64 (0 - bT d f) := by unfold I64; simp only [bT]; omega
 refine ⟨hi,?_⟩
 refine aI (pull_c d hd (by omega) (by omega) (hv.app) hl hn).v ?_
 simp only [go_sem]
 simp only [nO,Int.zero_sub]
theorem dirs_c {v : AV} (hv : cellsOf v = some [v]) : ACall Tryz.prog w0 124 [v] h fun y H => y = .fn (.func 143) [] [.ptr (.own h.length 0)] ∧ H = h ++ [some (.row [v])] := by
 refine bB aV rG wQ wP (qE rfl) fun hb ha => aY ?_
 simp only [go_sem,mf124,hv]
def PV (x : Int × Int) (_ : aA) (args : List AV) : Prop := args = [.agg (pC x)]
theorem aAY {l : List (Int × Int)} {j : Nat} (hj : j < l.length) : ((((l.map pC).flatten).drop (j * 2)).take 2) = pC l[j] := by
 have := xS (rows := l.map pC) (es := 2) (fun c hc => by obtain ⟨x,_,rfl⟩ := List.mem_map.1 hc; rfl) (j := j) (c := pC l[j]) (by rw [List.getElem?_map,qA hj]; rfl)
 exact this.2.1
theorem aEy {C : List Nat} {q : Nat} {p : Pl} {v : AV} {l : List aK} {K : aA → Prop} (hp : rd w0 (msk C h) p = some v) (hv : Sl w0 (msk C h) 3 v (l.map aK.c)) (hl : l.all aS = true) (hn : l.length ≤ 20)
 (hI : cX Tryz.prog w0 q C PV (· = []) K (fM l) [] h) : ACall Tryz.prog w0 143 [.yld q,.ptr p] h fun _ H => K H := by
 refine bB aV rC wI wH (qE rfl) fun hb ha => aY ?_
 have e0 : ∀ L,rd w0 (h ++ L) p = some v := fun L => fW (lL.rd hp)
 have hlen : gM v = some (.int .i64 l.length) := by have := hv.use.1; rwa [List.length_map] at this
 simp only [go_sem,mf143,e0,hlen]
 refine eL (S := Nat × aA) (F := fun s => [(0,.yld q),(9,v),(10,.int .i64 l.length),(11,.int .i64 s.1)]) (H := fun s => s.2) (meas := fun s => l.length - s.1)
  (Inv := fun s => s.1 ≤ l.length ∧ bK C h s.2 ∧ cX Tryz.prog w0 q C PV (· = []) K ((l.drop s.1).flatMap iR ++ dZ) [] s.2) (0,h) ⟨Nat.zero_le _,bK.refl,by simpa [fM] using hI⟩ rfl (by simp) ?_
 rintro ⟨j,H⟩ ⟨hj,kH,iH⟩ ih
 simp only at hj kH iH ih ⊢
 refine bF aV aCo [0,9,10,11] L143_1.eq_1 ?_
 by_cases hjl : j < l.length
 · have e1 : (j : Int) < l.length := by omega
   have hvH := hv.sub ((kH.msk (ms := C) fun i hi => .inl hi).trans (lL (ms := C)))
   obtain ⟨_,p3,hix,hrow,_⟩ := hvH.use
   rw [List.length_map] at hix
   have e2 := hix j hjl
   have hr : (l.map aK.c)[j]? = some l[j].c := by rw [List.getElem?_map,qA hjl]; rfl
   have e3 : ∀ L,rdn w0 (H ++ L) (p3.add (j * 3)) 3 = some l[j].c := fun L => cK (hrow j _ hr)
   have e3' := hrow j _ hr
   have hR := List.all_eq_true.1 hl _ (qG hjl)
   simp only [aS,inB,Bool.and_eq_true,decide_eq_true_eq] at hR
   obtain ⟨r,hr'⟩ : ∃ r,r = l[j] := ⟨_,rfl⟩
   rw [← hr'] at hR
   rw [List.drop_eq_getElem_cons hjl,List.flatMap_cons,← hr',List.append_assoc] at iH
   simp only [go_sem,e1,e2,e3,e3',← hr',Int.zero_sub]
   refine ⟨(by unfold I64; omega),(by unfold I64; omega),(by unfold I64; omega),(by unfold I64; omega),?_⟩
   refine eL (S := Nat × aA) (F := fun s => [(0,.yld q),(9,v),(10,.int .i64 l.length),(11,.int .i64 j),(39,.agg ((iR r).map pC).flatten),(40,.int .i64 s.1)]) (H := fun s => s.2) (meas := fun s => 4 - s.1)
    (Inv := fun s => s.1 ≤ 4 ∧ bK C h s.2 ∧ cX Tryz.prog w0 q C PV (· = []) K ((iR r).drop s.1 ++ ((l.drop (j + 1)).flatMap iR ++ dZ)) [] s.2) (0,_) ⟨by simp,kH.app,iH.keep aH.refl.app.toK⟩ rfl rfl ?_
   rintro ⟨i,G⟩ ⟨hi,kG,iG⟩ ih2
   simp only at hi kG iG ih2 ⊢
   refine bF aV aCp [0,9,10,11,39,40] L143_0.eq_1 ?_
   by_cases hi4 : i < 4
   · have e4 : (i : Int) < 4 := by omega
     have hx := aAY (l := iR r) (j := i) hi4
     rw [List.drop_eq_getElem_cons (show i < (iR r).length from hi4),List.cons_append] at iG
     simp only [go_sem,e4,hi4,hx]
     refine aX (cX.call iG aH.refl.app.toK [] rfl (fun i hi => by cases hi) (fun i hi => by cases hi) rfl) ?_
     rintro y G1 ⟨k1,r1⟩
     have k2 : bK C h G1 := kG.trans ((aH.refl.app.toK (C := C)).trans k1)
     rcases r1 with ⟨rfl,it⟩ | ⟨rfl,kk⟩
     · simp only [go_sem]
       exact ⟨(by unfold I64; omega),ih2 (i + 1,G1) ⟨by simp only; omega,k2,it⟩ (by simp only; omega)⟩
     · simp only [go_sem]
       exact kk _ bK.refl
   · have e4 : ¬ (i : Int) < 4 := by omega
     obtain rfl : i = 4 := by omega
     simp only [go_sem,e4]
     exact ⟨(by unfold I64; omega),ih (j + 1,G) ⟨by simp only; omega,kG,iG⟩ (by simp only; omega)⟩
 · have e1 : ¬ (j : Int) < l.length := by omega
   obtain rfl : j = l.length := by omega
   rw [List.drop_length,List.flatMap_nil,List.nil_append] at iH
   simp only [go_sem,e1]
   refine eL (S := Nat × aA) (F := fun s => [(0,.yld q),(53,.agg (dZ.map pC).flatten),(54,.int .i64 s.1)]) (H := fun s => s.2) (meas := fun s => 4 - s.1)
    (Inv := fun s => s.1 ≤ 4 ∧ cX Tryz.prog w0 q C PV (· = []) K (dZ.drop s.1) [] s.2) (0,_) ⟨by simp,iH⟩ rfl (by simp) ?_
   rintro ⟨i,G⟩ ⟨hi,iG⟩ ih2
   simp only at hi iG ih2 ⊢
   refine bF aV aCn [0,53,54] L143_2.eq_1 ?_
   by_cases hi4 : i < 4
   · have e4 : (i : Int) < 4 := by omega
     have hx := aAY (l := dZ) (j := i) hi4
     rw [List.drop_eq_getElem_cons (show i < dZ.length from hi4)] at iG
     simp only [go_sem,e4,hi4,hx]
     refine aX (cX.call iG aH.refl.app.toK [] rfl (fun i hi => by cases hi) (fun i hi => by cases hi) rfl) ?_
     rintro y G1 ⟨k1,r1⟩
     rcases r1 with ⟨rfl,it⟩ | ⟨rfl,kk⟩
     · simp only [go_sem]
       exact ⟨(by unfold I64; omega),ih2 (i + 1,G1) ⟨by simp only; omega,it⟩ (by simp only; omega)⟩
     · simp only [go_sem]
       exact kk _ bK.refl
   · have e4 : ¬ (i : Int) < 4 := by omega
     obtain rfl : i = 4 := by omega
     simp only [go_sem,e4]
     exact iG _ bK.refl
def kF (o : Option (Int × Int)) : AV := match o with
 | some d => .tup [.agg (pC d),.bool true]
 | none => .tup [.agg (pC (0,0)),.bool false]
theorem oX {p : Pl} {v fv : AV} {l : List aK} (P : Int × Int → Bool) (hp : rd w0 h p = some v) (hv : Sl w0 h 3 v (l.map aK.c)) (hl : l.all aS = true) (hn : l.length ≤ 20) (hfo : cellsOf fv = some [fv])
 (hf : ∀ d ∈ fM l,∀ H,aH h H → cV Tryz.prog w0 fv [.agg (pC d)] H (.bool (P d)) H) :
 aU Tryz.prog w0 123 [.fn (.func 143) [] [.ptr p],fv] h (kF ((fM l).find? P)) h := by
 have hbv : ∀ N,(kF ((fM l).find? P)).bdd N := fun N => by unfold kF; split <;> simp [AV.bdd,AV.bdds,pC]
 refine cN (hbv _) (bB aV rH wS wR (qE rfl) fun hb ha => aY ?_)
 simp only [go_sem,mf123,hfo]
 refine oM [3,4,5,8] ?_
 simp only [go_sem]
 refine tJ (fid := 143) (first := []) rfl (.inl rfl) fun hca hcb hps => ?_
 simp only [go_sem]
 obtain ⟨N,eN⟩ : ∃ N,N = h.length := ⟨_,rfl⟩
 obtain ⟨LB,hLB⟩ : ∃ LB : LoopState → Option Code → Blk,LB = Blk.loop 15 [(3,AV.ptr (Pl.own (List.length h) 0)),(4,AV.ptr (Pl.own (List.length h + 1) 0)),(5,AV.ptr (Pl.own (List.length h + 2) 0)),(8,AV.fn (Fn.func 143) [] [AV.ptr p])] #[9] (bG (bY 123) [1,0,1,0,0]) (bG (bY 123) [1,0,1,0,1]) := ⟨_,rfl⟩
 rw [← hLB]
 obtain ⟨C,eC⟩ : ∃ C,C = [N + 1,N + 2,N + 3] := ⟨_,rfl⟩
 obtain ⟨G0,eG0⟩ : ∃ G0 : aA,G0 = h ++ [some (.row [fv]),some (.row [.int .i64 0,.int .i64 0]),some (.row [.bool false]),some (LB .ready none)] := ⟨_,rfl⟩
 have hm : aH h (msk C G0) := by
  rw [eG0]
  refine ⟨by rw [eT]; simp,fun i b e => ?_⟩
  have := aQ e
  rw [jP (by rw [eC]; simp; omega)]; exact aB e
 rw [← eG0,← eN]
 refine aEy (C := C) (hm.rd hp) (hv.sub hm) hl hn ?_
 have claim : ∀ (r : List (Int × Int)),(∀ d ∈ r,d ∈ fM l) → (fM l).find? P = r.find? P → ∀ H,aH h H → H[N]? = some (some (.row [fv])) → H[N + 1]? = some (some (.row [.int .i64 0,.int .i64 0])) → H[N + 2]? = some (some (.row [.bool false])) → H[N + 3]? = some (some (LB .ready none)) →
  cX Tryz.prog w0 (N + 3) C PV (· = []) (fun h' => rgE Tryz.prog w0 none 15 N (tN w0 [RV.c 4 (some 2),RV.c 5 none] fun v' h' => aH h h' ∧ v' = kF (List.find? P (fM l)))
  [It.inBlk 0,It.code ((SC.reg [MIx.op (some 7) none (MOp.alloc [AV.int IntKind.i64 0,AV.int IntKind.i64 0])]).seq ((SC.reg [MIx.op (some 14) none (MOp.load (Opd.t 7) (some 2)),MIx.op none none (MOp.store (Opd.t 4) (Opd.t 14) 2),MIx.op none none (MOp.store (Opd.t 5) (Opd.k (AV.bool false)) 1)]).seq SC.ret))]
  [(3,AV.ptr (Pl.own N 0)),(4,AV.ptr (Pl.own (N + 1) 0)),(5,AV.ptr (Pl.own (N + 2) 0)),(8,AV.fn (Fn.func 143) [] [AV.ptr p])] h'[N + 3]? (List.set h' (N + 3) none)) r [] H := by
  intro r
  induction r with
  | nil =>
   intro hr hfd H sH g0 g1 g2 g3 H2 kp
   have f1 := kp.at_ _ _ (by simp) g1
   have f2 := kp.at_ _ _ (by simp) g2
   have f3 := kp.at_ _ _ (by simp) g3
   have s2 : aH h H2 := ⟨Nat.le_trans sH.1 kp.le,fun i b e => kp.at_ _ _ (by simp) (sH.2 _ _ e)⟩
   obtain ⟨X,eX⟩ : ∃ X,X = H2.set (N + 3) none := ⟨_,rfl⟩
   have lX : X.length = H2.length := by rw [eX,List.length_set]
   have q3 := aQ f3
   have x1 : ∀ L,(X ++ L)[N + 1]? = some (some (.row [.int .i64 0,.int .i64 0])) := fun L => aB (by rw [eX,qB (by omega)]; exact f1)
   have x2 : ∀ L b,((X ++ L).set (N + 1) b)[N + 2]? = some (some (.row [.bool false])) := fun L b => by
    rw [qB (by omega)]; exact aB (by rw [eX,qB (by omega)]; exact f2)
   have x3 : ∀ L b b',(((X ++ L).set (N + 1) b).set (N + 2) b')[N + 1]? = some b := fun L b b' => by
    rw [qB (by omega),qF (by simp; omega)]
   have x4 : ∀ L b b',(((X ++ L).set (N + 1) b).set (N + 2) b')[N + 2]? = some b' := fun L b b' => by
    rw [qF (by simp; omega)]
   simp only [f3,← eX,hLB]
   simp only [go_sem,x1,x2,x3,x4]
   have s3 : aH h X := by rw [eX]; exact s2.setR (by omega)
   exact ⟨(s3.app.setR (by omega)).setR (by omega),by rw [hfd]; rfl⟩
  | cons x r ih =>
   intro hr hfd H sH g0 g1 g2 g3 H2 args O2 hO kp hO1 hO2 hV
   subst hV
   have f0 := kp.at_ _ _ (by simp) g0
   have f1 := kp.at_ _ _ (by simp) g1
   have f2 := kp.at_ _ _ (by simp) g2
   have f3 := kp.at_ _ _ (by simp) g3
   have s2 : aH h H2 := ⟨Nat.le_trans sH.1 kp.le,fun i b e => kp.at_ _ _ (by simp) (sH.2 _ _ e)⟩
   have q3 := aQ f3
   have f3' := f3
   rw [hLB,← eN] at f3'
   refine kO (psl := [9]) aV rfl aAk aAj pL.eq_1 R123_0b.eq_1 f3' rfl hps hca hcb fun hb2 ha2 => ?_
   obtain ⟨LY,hLY⟩ : ∃ b,b = Blk.loop 15 [(3,AV.ptr (Pl.own N 0)),(4,AV.ptr (Pl.own (N + 1) 0)),(5,AV.ptr (Pl.own (N + 2) 0)),(8,AV.fn (Fn.func 143) [] [AV.ptr p])] #[9] (bG (bY 123) [1,0,1,0,0]) (bG (bY 123) [1,0,1,0,1]) LoopState.busy none := ⟨_,rfl⟩
   have f3a : ∀ L,(H2 ++ L)[N + 3]? = _ := fun L => aB (k := L) f3'
   simp only [go_sem,f3a]
   rw [← hLY]
   obtain ⟨Y,eY⟩ : ∃ Y,Y = (H2 ++ [some (Blk.row [AV.int IntKind.i64 x.1,AV.int IntKind.i64 x.2])]).set (N + 3) (some LY) := ⟨_,rfl⟩
   have lY : Y.length = H2.length + 1 := by rw [eY]; simp
   have old : ∀ (i : Nat) b,i ≠ N + 3 → H2[i]? = some (some b) → Y[i]? = some (some b) := fun i b hi e => by
    rw [eY,qB (fun e => hi e.symm)]; exact aB e
   have y0 := old _ _ (by omega) f0
   have y1 := old _ _ (by omega) f1
   have y2 := old _ _ (by omega) f2
   have y3 : Y[N + 3]? = some (some LY) := by rw [eY,qF (by simp; omega)]
   have y4 : Y[H2.length]? = some (some (.row [AV.int IntKind.i64 x.1,AV.int IntKind.i64 x.2])) := by
    rw [eY,qB (by omega),qI (Nat.le_refl _),Nat.sub_self]; rfl
   have sY : aH h Y := ⟨by have := s2.1; omega,fun i b e => old i b (by have := aQ e; omega) (s2.2 _ _ e)⟩
   have kY : bK C H2 Y := ⟨by omega,fun i b hi e => old i b (fun e => hi (by rw [eC,e]; simp)) e⟩
   rw [← eY]
   simp only [go_sem,y0,y4]
   refine aI (hf x (hr x (by simp)) Y sY) ?_
   cases hP : P x with
   | true =>
    have y5 : ∀ b,(Y.set (N + 1) b)[N + 2]? = some (some (.row [.bool false])) := fun b => by rw [qB (by omega)]; exact y2
    have y6 : ∀ b b',((Y.set (N + 1) b).set (N + 2) b')[N + 3]? = some (some LY) := fun b b' => by rw [qB (by omega),qB (by omega)]; exact y3
    simp only [go_sem,y1,y4,y5,y6]
    refine ⟨⟨_,_,by rw [hLY]⟩,?_⟩
    refine ⟨((kY.set (.inl (by rw [eC]; simp))).set (.inl (by rw [eC]; simp))).set (.inl (by rw [eC]; simp)),.inr fun H4 k4 => ?_⟩
    subst hO
    have z1 := k4.at_ (N + 1) (.row [AV.int IntKind.i64 x.1,AV.int IntKind.i64 x.2]) (by simp) (by rw [qB (by omega),qB (by omega),qF (by omega)])
    have z2 := k4.at_ (N + 2) (.row [AV.bool true]) (by simp) (by rw [qB (by omega),qF (by simp; omega)])
    have z3 := k4.at_ (N + 3) _ (by simp) (qF (by simp; omega))
    have z4 : (H4.set (N + 3) none)[N + 1]? = some (some (.row [AV.int IntKind.i64 x.1,AV.int IntKind.i64 x.2])) := by rw [qB (by omega)]; exact z1
    have z5 : (H4.set (N + 3) none)[N + 2]? = some (some (.row [AV.bool true])) := by rw [qB (by omega)]; exact z2
    have s4 : aH h H4 := ⟨by have := k4.le; simp at this; have := sY.1; omega,fun i b e => k4.at_ _ _ (by simp) (by
     have := aQ e
     rw [qB (by omega),qB (by omega),qB (by omega)]; exact sY.2 _ _ e)⟩
    simp only [go_sem,z3,z4,z5]
    exact ⟨s4.setR (by omega),by rw [hfd,List.find?_cons_of_pos hP]; rfl⟩
   | false =>
    simp only [go_sem,y3]
    refine ⟨⟨_,_,by rw [hLY]⟩,?_⟩
    refine ⟨kY.set (.inl (by rw [eC]; simp)),.inl ?_⟩
    subst hO
    refine ih (fun d hd => hr d (by simp [hd])) (by rw [hfd,List.find?_cons_of_neg (by simp [hP])]) _ (sY.setR (by omega)) ?_ ?_ ?_ ?_
    · rw [qB (by omega)]; exact y0
    · rw [qB (by omega)]; exact y1
    · rw [qB (by omega)]; exact y2
    · rw [qF (by omega),hLB,← eN]
 refine claim _ (fun _ hd => hd) rfl G0 (eG0 ▸ aH.refl.app) ?_ ?_ ?_ ?_
 all_goals
  rw [eG0,eN,qI (by omega)]; simp
def gU (o : Option ((Int × Int) × (Int × Int))) : List AV := match o with
 | some (f,d) => [.bool false,.agg [.int .i64 f.1,.int .i64 f.2,.int .i64 d.1,.int .i64 d.2]]
 | none => [.bool true,.agg [.int .i64 0,.int .i64 0,.int .i64 0,.int .i64 0]]
theorem aEz {l : List aK} (hl : l.all aS = true) : ∀ d ∈ fM l,Bd 100 d := fun d hd => by
 rcases List.mem_append.1 hd with hd | hd
 · obtain ⟨r,hr,hd⟩ := List.mem_flatMap.1 hd
   have hR := List.all_eq_true.1 hl r hr
   simp only [aS,inB,Bool.and_eq_true,decide_eq_true_eq] at hR
   simp only [iR,List.mem_cons,List.not_mem_nil,or_false] at hd
   unfold Bd
   rcases hd with rfl | rfl | rfl | rfl <;> simp only <;> omega
 · simp only [dZ,List.mem_cons,List.not_mem_nil,or_false] at hd
   unfold Bd
   rcases hd with rfl | rfl | rfl | rfl <;> simp only <;> omega
theorem uJ {w : dL} (hw : fF w = true) : ∀ f ∈ dT w,Bd 1000000 f := fun f hf => by
 simp only [fF,eP,Bool.and_eq_true,decide_eq_true_eq] at hw
 simp only [dT,List.mem_cons,List.not_mem_nil,or_false] at hf
 unfold Bd
 rcases hf with rfl | rfl | rfl | rfl <;> simp only <;> omega
theorem pc_bdd (l : List (Int × Int)) (N : Nat) : AV.bdds N (l.map pC).flatten := aR.2 fun x hx => by
 obtain ⟨c,hc,hx⟩ := List.mem_flatten.1 hx
 obtain ⟨y,_,rfl⟩ := List.mem_map.1 hc
 simp only [pC,List.mem_cons,List.not_mem_nil,or_false] at hx
 rcases hx with rfl | rfl <;> trivial
theorem hold_c (w : dL) {v : AV} {l : List aK} (hv : Sl w0 h 3 v (l.map aK.c)) (hl : l.all aS = true) (hn : l.length ≤ 20) (hw : fF w = true) :
 aU Tryz.prog w0 80 [.agg w.c,v] h (.tup (gU (fS l w))) h := by
 have hbv : ∀ N,(AV.tup (gU (fS l w))).bdd N := fun N => by
  unfold gU; split <;> simp [AV.bdd,AV.bdds]
 refine cN (hbv _) (bB aV vR aA7 aA6 (qE rfl) fun hb ha => aY ?_)
 have o := Sl.one hv
 have vb := hv.bdd (Nat.le_refl _)
 simp only [go_sem,mf80,o.1,o.2]
 refine eL (S := Nat) (F := fun i => [(3,.ptr (.own (h.length + 1) 0)),(5,.ptr (.own (h.length + 2) 0)),(38,.agg ((dT w).map pC).flatten),(39,.int .i64 i)])
  (H := fun _ => h ++ [some (.row w.c),some (.row [v]),some (.row [.int .i64 0,.int .i64 0,.int .i64 0,.int .i64 0])]) (meas := fun i => 4 - i)
  (Inv := fun i => i ≤ 4 ∧ fS l w = ((dT w).drop i).findSome? fun f => (fT l f).map fun d => (f,d)) 0 ⟨Nat.zero_le _,rfl⟩ rfl rfl ?_
 rintro i ⟨hi,hH⟩ ih
 refine bF aV aEC [3,5,38,39] L80_0.eq_1 ?_
 by_cases hi4 : i < 4
 · have e1 : (i : Int) < 4 := by omega
   have hcl : i < (dT w).length := hi4
   have hx := aAY hcl
   rw [List.drop_eq_getElem_cons hcl,List.findSome?_cons] at hH
   obtain ⟨f,hf⟩ : ∃ f,f = (dT w)[i]'hcl := ⟨_,rfl⟩
   have hfb : Bd 1000000 f := hf ▸ uJ hw _ (qG hcl)
   rw [← hf] at hx hH
   simp only [go_sem,e1,hi4,hx]
   refine aX (ACall.vc (first := []) (args := [v]) (dirs_c o.2)) ?_
   rintro _ _ ⟨rfl,rfl⟩
   simp only [go_sem]
   obtain ⟨X,eX⟩ : ∃ X,X = h ++ [some (.row w.c),some (.row [v]),some (.row [.int .i64 0,.int .i64 0,.int .i64 0,.int .i64 0]),some (.row (pC f)),some (.row [v])] := ⟨_,rfl⟩
   have sX : aH h X := eX ▸ aH.refl.app
   have x1 : X[h.length + 1]? = some (some (.row [v])) := by rw [eX,qI (by omega)]; simp
   have x3 : X[h.length + 3]? = some (some (.row (pC f))) := by rw [eX,qI (by omega)]; simp
   have x4 : X[h.length + 4]? = some (some (.row [v])) := by rw [eX,qI (by omega)]; simp
   have hfirst := oX (w0 := w0) (h := X) (p := .own (h.length + 4) 0) (fv := .fn (.func 125) [] [.ptr (.own (h.length + 3) 0),.ptr (.own (h.length + 1) 0)]) (nO l f)
    (by simp [rd,x4]) (hv.sub sX) hl hn rfl fun d hd H sH => aU.vc (P := Tryz.prog) (first := []) (capt := [.ptr (.own (h.length + 3) 0),.ptr (.own (h.length + 1) 0)]) (aEu d f (by
     have := aEz hl d hd; unfold Bd at *; omega) hfb (by simp [rdn,sH.2 _ _ x3,pC]) (by simp [rd,sH.2 _ _ x1]) (hv.sub (sX.trans sH)) hl hn)
   rw [eX] at hfirst
   refine aI hfirst.v ?_
   rw [show (fM l).find? (nO l f) = fT l f from rfl]
   cases hff : fT l f with
   | some d =>
    rw [hff] at hH
    simp only [go_sem,kF]
    exact ⟨aH.refl.app,by rw [hH]; rfl⟩
   | none =>
    rw [hff] at hH
    simp only [go_sem,kF]
    refine ⟨(by unfold I64; omega),fJ 3 hb (by simp [cR,cS,dV,dW,fD,dN,AV.bdds,AV.bdd,Pl.bdd,cC]; exact AV.bdd_mono (by omega) _ vb) (by simp [cR,cS,dV,dW,fD,dN,AV.bdds,AV.bdd,Pl.bdd,cC]; exact pc_bdd _ _) ?_⟩
    exact ih (i + 1) ⟨by omega,hH⟩ (by omega)
 · have e1 : ¬ (i : Int) < 4 := by omega
   obtain rfl : i = 4 := by omega
   simp only [go_sem,e1]
   rw [show (dT w).drop 4 = [] from rfl] at hH
   rw [hH]
   exact ⟨aH.refl.app,rfl⟩
theorem aAQ (r : aK) : aU Tryz.prog w0 122 [.agg r.c] h (.bool (aS r)) h := by
 refine aO aV rI wU wT (qE rfl) (by simp [AV.bdd,AV.bdds]) fun hb ha => aY ?_
 simp only [go_sem,mf122]
 refine aI (zK r.x (-100) 100).v ?_
 cases e1 : inB r.x (-100) 100 with
 | false => simp only [go_sem]; simp [aS,e1]
 | true =>
 simp only [go_sem]
 refine aI (zK r.y (-100) 100).v ?_
 cases e2 : inB r.y (-100) 100 with
 | false => simp only [go_sem]; simp [aS,e2]
 | true =>
 by_cases q1 : r.x = 0
 · by_cases q2 : r.y = 0
   · simp only [go_sem,q1,q2]
     simp [aS,q1,q2]
   · simp only [go_sem,q1,q2]
     refine aI (zK r.s 0 1000000).v ?_
     simp only [go_sem]
     rw [q1] at e1
     simp [aS,e1,e2,q1,q2]
 · simp only [go_sem,q1]
   refine aI (zK r.s 0 1000000).v ?_
   simp only [go_sem]
   simp [aS,e1,e2,q1]
def dC (l : List aK) (w : dL) : Int := if 8 < l.length then 3 else cond (l.all aS && fF w) 0 2
theorem aCR (w : dL) {v : AV} {l : List aK} (hv : Sl w0 h 3 v (l.map aK.c)) : aU Tryz.prog w0 79 [v,.agg w.c] h (.int .i64 (dC l w)) h := by
 refine aO aV vS aA9 aA8 (qE rfl) (by simp [AV.bdd,AV.bdds]) fun hb ha => aY ?_
 have hlen : gM v = some (.int .i64 l.length) := by have := hv.use.1; rwa [List.length_map] at this
 by_cases hL : 8 < l.length
 · have e1 : (l.length : Int) > 8 := by omega
   simp only [go_sem,mf79,hlen,e1]
   rw [dC,if_pos hL]
 have e1 : ¬ (l.length : Int) > 8 := by omega
 simp only [go_sem,mf79,hlen,e1]
 have hall := nB (w0 := w0) (h := h ++ [some (.row w.c)]) (l.map aK.c) v (.fn (.func 122) [] []) (fun j => aS (l.getD j ⟨0,0,0⟩)) hv.app (fun c hc => by
  obtain ⟨z,_,rfl⟩ := List.mem_map.1 hc; rfl) (by rw [List.length_map]; omega) (fun j c hc _ L => by
  rw [List.getElem?_map] at hc
  obtain ⟨z,hz,rfl⟩ := qD.1 hc
  rw [rS hz]
  exact aU.vc (P := Tryz.prog) (first := []) (capt := []) (aAQ z))
 rw [List.length_map,fX] at hall
 refine aI hall.v ?_
 rw [dC,if_neg hL]
 cases c1 : l.all aS with
 | false => simp only [go_sem]; simp
 | true =>
 simp only [go_sem]
 have s1 : ∀ {H : aA},aU Tryz.prog w0 115 [.agg [.int .i64 w.xl,.int .i64 w.xh],.int .i64 (-1000000),.int .i64 1000000] H (.bool (eP w.xl w.xh)) H := oH ..
 have s2 : ∀ {H : aA},aU Tryz.prog w0 115 [.agg [.int .i64 w.yl,.int .i64 w.yh],.int .i64 (-1000000),.int .i64 1000000] H (.bool (eP w.yl w.yh)) H := oH ..
 refine aI s1.v ?_
 simp only [fF,Bool.true_and]
 cases c2 : eP w.xl w.xh with
 | false => simp only [go_sem]; simp
 | true =>
 simp only [go_sem]
 refine aI s2.v ?_
 cases c3 : eP w.yl w.yh with
 | false => simp only [go_sem]; simp
 | true => simp only [go_sem]; simp
def mT (l : List aK) (w : dL) : AV := if dC l w = 0 then .tup (gU (fS l w) ++ [.int .i64 0]) else .tup [.bool false,.agg [.int .i64 0,.int .i64 0,.int .i64 0,.int .i64 0],.int .i64 (dC l w)]
theorem aCs (w : dL) {v : AV} {l : List aK} (hv : Sl w0 h 3 v (l.map aK.c)) : aU Tryz.prog w0 28 [v,.agg w.c] h (mT l w) h := by
 have hbv : ∀ N,(mT l w).bdd N := fun N => by
  unfold mT gU; split
  · split <;> simp [AV.bdd,AV.bdds]
  · simp [AV.bdd,AV.bdds]
 refine cN (hbv _) (bB aV vX aBj aBi (qE rfl) fun hb ha => aY ?_)
 simp only [go_sem,mf28]
 refine aI (aCR w hv.app).v ?_
 by_cases e : dC l w = 0
 · have hR : l.length ≤ 8 ∧ l.all aS = true ∧ fF w = true := by
    unfold dC at e
    split at e
    · omega
    · cases h2 : l.all aS && fF w with
      | false => rw [h2] at e; simp at e
      | true =>
       rw [Bool.and_eq_true] at h2
       exact ⟨by omega,h2⟩
   simp only [go_sem,e]
   refine aI (hold_c w hv.app hR.2.1 (by omega) hR.2.2).v ?_
   rw [mT,if_pos e]
   cases fS l w with
   | none =>
    simp only [go_sem,gU,List.cons_append,List.nil_append]
    exact aH.refl.app
   | some x =>
    simp only [go_sem,gU,List.cons_append,List.nil_append]
    exact aH.refl.app
 · simp only [go_sem,e]
   rw [mT,if_neg e]
   exact ⟨aH.refl.app,rfl⟩
theorem jK {l : List aK} {j : Nat} (hj : j < l.length) : (l.map aK.c)[j]? = some l[j].c := by rw [List.getElem?_map,qA hj]; rfl
theorem qN {v : AV} {l : List aK} (hv : Sl w0 h 3 v (l.map aK.c)) (hn : l.length < 1000000) : aU Tryz.prog w0 38 [v] h (.bool (l.all aS)) h := by
 refine aO aV aDk mf38_b mf38_g (qE rfl) (by simp [AV.bdd,AV.bdds]) fun hb ha => aY ?_
 obtain ⟨hlen,q,hix,hrow,_⟩ := hv.use
 rw [List.length_map] at hlen hix
 have vb := hv.bdd (Nat.le_refl _)
 simp only [go_sem,mf38]
 refine mC (fun j => [(0,v),(3,.int .i64 j)]) (fun j => aS (l.getD j ⟨0,0,0⟩) = true) l.length rfl (fun j hj hall ih => ?_) (fun hall => ?_)
 · refine bF aV yD [0,3] L38_0.eq_1 ?_
   have e1 : (j : Int) < l.length := by omega
   have e2 := hix j hj
   have e3 : ∀ L,rdn w0 (h ++ L) (q.add (j * 3)) 3 = some l[j].c := fun L => cK (hrow j _ (jK hj))
   have e3' := hrow j _ (jK hj)
   obtain ⟨r,hr⟩ : ∃ r,r = l[j] := ⟨_,rfl⟩
   rw [fL hj,← hr] at ih
   have no : aS r = false → l.all aS = false := fun x => by
    rw [List.all_eq_false]; exact ⟨_,qG hj,by rw [← hr,x]; simp⟩
   simp only [go_sem,hlen,e1,e2,e3,e3',← hr]
   refine aI (vH r.x (-100) 100).v ?_
   cases c1 : inB r.x (-100) 100 with
   | false => simp only [go_sem]; rw [no (by simp [aS,c1])]
   | true =>
   simp only [go_sem]
   refine aI (vH r.y (-100) 100).v ?_
   cases c2 : inB r.y (-100) 100 with
   | false => simp only [go_sem]; rw [no (by simp [aS,c2])]
   | true =>
   by_cases q1 : r.x = 0
   · by_cases q2 : r.y = 0
     · simp only [go_sem,q1,q2]
       rw [no (by simp [aS,q1,q2])]
     · simp only [go_sem,q1,q2]
       refine aI (vH r.s 0 1000000).v ?_
       cases c3 : inB r.s 0 1000000 with
       | false => simp only [go_sem]; rw [no (by simp [aS,c3])]
       | true =>
       simp only [go_sem]
       refine ⟨(by unfold I64; omega),fJ 0 hb (by simp [HBs]) (by simp [cR,cS,dV,dW,fD,dN,AV.bdds,AV.bdd,Pl.bdd,cC]; exact vb) ?_⟩
       simpa using ih (by rw [q1] at c1; simp [aS,q1,c1,c2,c3,q2])
   · simp only [go_sem,q1]
     refine aI (vH r.s 0 1000000).v ?_
     cases c3 : inB r.s 0 1000000 with
     | false => simp only [go_sem]; rw [no (by simp [aS,c3])]
     | true =>
     simp only [go_sem]
     refine ⟨(by unfold I64; omega),fJ 0 hb (by simp [HBs]) (by simp [cR,cS,dV,dW,fD,dN,AV.bdds,AV.bdd,Pl.bdd,cC]; exact vb) ?_⟩
     simpa using ih (by simp [aS,q1,c1,c2,c3])
 · refine bF aV yD [0,3] L38_0.eq_1 ?_
   have e1 : ¬ (l.length : Int) < l.length := by omega
   have : l.all aS = true := by rw [← fX ⟨0,0,0⟩,List.all_eq_true]; exact fun j hj => hall j (List.mem_range.1 hj)
   simp only [go_sem,hlen,e1]
   rw [this]
theorem qR (a b : Int) : aU Tryz.prog w0 120 [.agg [.int .i64 a,.int .i64 b]] h (.bool (eP a b)) h := by
 refine aO aV aBI aEa aD9 (qE rfl) (by simp [AV.bdd,AV.bdds]) fun hb ha => aY ?_
 simp only [go_sem,mf120]
 exact ⟨fun x => ⟨fun y => by simp [eP,x,y],fun y => by simp [eP,x,y]⟩,fun x => by simp [eP,x]⟩
theorem aCP (w : dL) : aU Tryz.prog w0 78 [.agg w.c] h (.bool (fF w)) h := by
 refine aO aV aDb mf78_b mf78_g (qE rfl) (by simp [AV.bdd,AV.bdds]) fun hb ha => aY ?_
 simp only [go_sem,mf78]
 refine aI (qR w.xl w.xh).v ?_
 cases c1 : eP w.xl w.xh with
 | false => simp only [go_sem]; simp [fF,c1]
 | true =>
 simp only [go_sem]
 refine aI (qR w.yl w.yh).v ?_
 simp only [go_sem]
 simp [fF,c1]
theorem aBP (w : dL) {v : AV} {l : List aK} (hv : Sl w0 h 3 v (l.map aK.c)) : aU Tryz.prog w0 26 [v,.agg w.c] h (.int .i64 (dC l w)) h := by
 refine aO aV aDm mf26_b mf26_g (qE rfl) (by simp [AV.bdd,AV.bdds]) fun hb ha => aY ?_
 have hlen : gM v = some (.int .i64 l.length) := by have := hv.use.1; rwa [List.length_map] at this
 by_cases hL : 8 < l.length
 · have e1 : (l.length : Int) > 8 := by omega
   simp only [go_sem,mf26,hlen,e1]
   rw [dC,if_pos hL]
 have e1 : ¬ (l.length : Int) > 8 := by omega
 simp only [go_sem,mf26,hlen,e1]
 refine aI (qN hv.app (by omega)).v ?_
 rw [dC,if_neg hL]
 cases c1 : l.all aS with
 | false => simp only [go_sem]; simp
 | true =>
 simp only [go_sem]
 refine aI (aCP w).v ?_
 cases c2 : fF w with
 | false => simp only [go_sem]; simp
 | true => simp only [go_sem]; simp
end Go.Proofs.Ab
namespace Go.Proofs.Ab
open Go Go.Proofs
variable {w : World} {h : aA} {cs : List Value}
theorem vF (g : Gd w mG cs) : ∃ r : aK,cs.map inj = r.c ∧ I64 r.s := by
 obtain ⟨a,b,c,e,_,_,h3⟩ := aEt g
 exact ⟨⟨a,b,c⟩,e,h3⟩
theorem aCF (g : Gd w mF cs) : ∃ r : dL,cs.map inj = r.c ∧ True := by
 obtain ⟨a,b,c,d,e,_⟩ := xO g
 exact ⟨⟨a,b,c,d⟩,e,trivial⟩
theorem aAN {v : Value} (g : Gd w (.sl mG .nil) [v]) : ∃ l : List aK,Sl w h 3 (inj v) (l.map aK.c) ∧ l.length ≤ 9223372036854775807 := by
 obtain ⟨_,_,e,h,rfl⟩ := g
 cases e
 exact qM aK.c rfl h fun _ g => by
  obtain ⟨r,e,_⟩ := vF g
  exact ⟨r,e⟩
end Go.Proofs.Ab
namespace Go.Proofs.Ab
open Go Go.Proofs
variable {w0 : World} {h : aA}
attribute [local irreducible] ACall bC cT aU cV rvC lp rg dr ex un rv
theorem aAO {l : List aK} {w : dL} (e : dC l w = 0) : l.length ≤ 8 ∧ l.all aS = true ∧ fF w = true := by
 unfold dC at e
 split at e
 · omega
 · cases h2 : l.all aS && fF w with
   | false => rw [h2] at e; simp at e
   | true =>
    rw [Bool.and_eq_true] at h2
    exact ⟨by omega,h2⟩
theorem aAP {l : List aK} {w : dL} (h1 : l.length ≤ 8) (h2 : l.all aS = true) (h3 : fF w = true) : dC l w = 0 := by
 rw [dC,if_neg (by omega),h2,h3]; rfl
end Go.Proofs.Ab

/- The own layer under the proofs of this seat, part M: what calls of the program come to on an abstract heap. No condition. -/
import Derived.Test.YtajecdfdnlfndaaGreatK
set_option linter.unusedSimpArgs false
set_option linter.unusedVariables false
namespace Go.Proofs.Ab
open Go Go.Proofs
structure aI where
 x : Int
 y : Int
 s : Int
structure dI where
 xl : Int
 xh : Int
 yl : Int
 yh : Int
def bF (a b : Int × Int) : Int := a.1 * b.1 + a.2 * b.2
def bG (r : aI) : Int × Int := (r.x,r.y)
def bC : List aI → Int × Int → Int
 | [],_ => 0
 | r :: l,d => r.s * max 0 (bF d (bG r)) + bC l d
def fI (l : List aI) (f d : Int × Int) : Bool := decide (bC l d < -(bF d f))
def iD (r : aI) : List (Int × Int) := [(-r.y,r.x),(r.y,-r.x),(r.x,r.y),(-r.x,-r.y)]
def dO : List (Int × Int) := [(1,0),(-1,0),(0,1),(0,-1)]
def eT (l : List aI) : List (Int × Int) := l.flatMap iD ++ dO
def cC (w : dI) : List (Int × Int) := [(w.xl,w.yl),(w.xl,w.yh),(w.xh,w.yl),(w.xh,w.yh)]
def eM (l : List aI) (f : Int × Int) : Option (Int × Int) := (eT l).find? (fI l f)
def jE (l : List aI) (w : dI) : Option ((Int × Int) × (Int × Int)) := (cC w).findSome? fun f => (eM l f).map fun d => (f,d)
def aV (r : aI) : Bool := inB r.x (-100) 100 && (inB r.y (-100) 100 && ((decide (r.x ≠ 0) || decide (r.y ≠ 0)) && inB r.s 0 1000000))
def dT (lo hi : Int) : Bool := decide (-1000000 ≤ lo) && (decide (lo ≤ hi) && decide (hi ≤ 1000000))
def eZ (w : dI) : Bool := dT w.xl w.xh && dT w.yl w.yh
theorem sL {l : List aI} {w : dI} : jE l w = none ↔ ∀ f ∈ cC w,∀ d ∈ eT l,-(bF d f) ≤ bC l d := by
 simp [jE,eM,fI]
theorem sK {l : List aI} {w : dI} {f d : Int × Int} (h : jE l w = some (f,d)) : f ∈ cC w ∧ d ∈ eT l ∧ bC l d < -(bF d f) := by
 obtain ⟨g,hg,h1⟩ := List.exists_of_findSome?_eq_some h
 cases h2 : eM l g with
 | none => simp [h2] at h1
 | some e =>
  simp only [h2,Option.map_some,Option.some.injEq,Prod.mk.injEq] at h1
  obtain ⟨rfl,rfl⟩ := h1
  exact ⟨hg,List.mem_of_find?_eq_some h2,by simpa [fI] using List.find?_some h2⟩
def bT : List aI → List Int → Int × Int
 | r :: l,t :: ts => (t * r.x + (bT l ts).1,t * r.y + (bT l ts).2)
 | _,_ => (0,0)
def cR : List aI → List Int → Bool
 | r :: l,t :: ts => inB t 0 r.s && cR l ts
 | [],[] => true
 | _,_ => false
theorem aBR {t s m : Int} (h0 : 0 ≤ t) (h1 : t ≤ s) : t * m ≤ s * max 0 m := by
 by_cases hm : 0 ≤ m
 · rw [Int.max_eq_right hm]; exact Int.mul_le_mul_of_nonneg_right h1 hm
 · rw [Int.max_eq_left (by omega)]
   have : t * m ≤ 0 := Int.mul_nonpos_of_nonneg_of_nonpos h0 (by omega)
   omega
theorem kZ (d : Int × Int) : ∀ (l : List aI) (t : List Int),cR l t = true → bF d (bT l t) ≤ bC l d
 | [],[],_ => by simp [bF,bT,bC]
 | r :: l,t :: ts,h => by
  simp only [cR,inB,Bool.and_eq_true,decide_eq_true_eq] at h
  have h1 := kZ d l ts h.2
  have h2 := aBR (m := bF d (bG r)) h.1.1 h.1.2
  simp only [bF,bT,bC,bG] at h1 h2 ⊢
  grind
theorem vF {c lo hi x : Int} (h0 : lo ≤ x) (h1 : x ≤ hi) : c * x ≤ c * lo ∨ c * x ≤ c * hi := by
 by_cases hc : 0 ≤ c
 · exact .inr (Int.mul_le_mul_of_nonneg_left h1 hc)
 · exact .inl (Int.mul_le_mul_of_nonpos_left (by omega) h0)
theorem box_le {w : dI} {d f : Int × Int} {m : Int} (h : ∀ c ∈ cC w,-(bF d c) ≤ m) (x0 : w.xl ≤ f.1) (x1 : f.1 ≤ w.xh) (y0 : w.yl ≤ f.2) (y1 : f.2 ≤ w.yh) : -(bF d f) ≤ m := by
 simp only [cC,List.forall_mem_cons,bF] at h
 obtain ⟨h1,h2,h3,h4,_⟩ := h
 have hx := vF (c := -d.1) x0 x1
 have hy := vF (c := -d.2) y0 y1
 simp only [Int.neg_mul] at hx hy
 simp only [bF]
 omega
def iB (lo hi p : Int) : Int := lo + ((hi - lo) * p).tdiv 100
theorem gR {lo hi p : Int} (h : lo ≤ hi) (h0 : 0 ≤ p) (h1 : p ≤ 100) : lo ≤ iB lo hi p ∧ iB lo hi p ≤ hi := by
 have a : 0 ≤ (hi - lo) * p := Int.mul_nonneg (by omega) h0
 have b : (hi - lo) * p ≤ (hi - lo) * 100 := Int.mul_le_mul_of_nonneg_left h1 (by omega)
 unfold iB
 rw [Int.tdiv_eq_ediv_of_nonneg a]; omega
theorem cO {x y m n : Int} (h0 : -m ≤ x) (h1 : x ≤ m) (g0 : -n ≤ y) (g1 : y ≤ n) : -(m * n) ≤ x * y ∧ x * y ≤ m * n := by
 have e1 : 0 ≤ (m - x) * (n - y) := Int.mul_nonneg (by omega) (by omega)
 have e2 : 0 ≤ (m + x) * (n + y) := Int.mul_nonneg (by omega) (by omega)
 have e3 : 0 ≤ (m - x) * (n + y) := Int.mul_nonneg (by omega) (by omega)
 have e4 : 0 ≤ (m + x) * (n - y) := Int.mul_nonneg (by omega) (by omega)
 simp only [Int.sub_mul,Int.mul_sub,Int.add_mul,Int.mul_add] at e1 e2 e3 e4
 omega
theorem pN {D : Int} {r : aI} {d : Int × Int} (hr : aV r = true) (h0 : -D ≤ d.1 ∧ d.1 ≤ D) (h1 : -D ≤ d.2 ∧ d.2 ≤ D) : (-(D * 100) ≤ d.1 * r.x ∧ d.1 * r.x ≤ D * 100) ∧ (-(D * 100) ≤ d.2 * r.y ∧ d.2 * r.y ≤ D * 100) := by
 simp only [aV,inB,Bool.and_eq_true,decide_eq_true_eq] at hr
 exact ⟨cO h0.1 h0.2 hr.1.1 hr.1.2,cO h1.1 h1.2 hr.2.1.1 hr.2.1.2⟩
theorem jN {D : Int} {r : aI} {d : Int × Int} (hr : aV r = true) (h0 : -D ≤ d.1 ∧ d.1 ≤ D) (h1 : -D ≤ d.2 ∧ d.2 ≤ D) : 0 ≤ r.s * max 0 (bF d (bG r)) ∧ r.s * max 0 (bF d (bG r)) ≤ 1000000 * (D * 200) := by
 have h := pN hr h0 h1
 simp only [aV,inB,Bool.and_eq_true,decide_eq_true_eq] at hr
 obtain ⟨_,_,_,hs0,hs1⟩ := hr
 have hm : 0 ≤ max 0 (bF d (bG r)) ∧ max 0 (bF d (bG r)) ≤ D * 200 := by
  simp only [bF,bG]; omega
 exact ⟨Int.mul_nonneg hs0 hm.1,Int.mul_le_mul hs1 hm.2 hm.1 (by omega)⟩
theorem nX {D : Int} {d : Int × Int} (h0 : -D ≤ d.1 ∧ d.1 ≤ D) (h1 : -D ≤ d.2 ∧ d.2 ≤ D) : ∀ l : List aI,l.all aV = true → 0 ≤ bC l d ∧ bC l d ≤ l.length * (1000000 * (D * 200))
 | [],_ => by simp [bC]
 | r :: l,h => by
  simp only [List.all_cons,Bool.and_eq_true] at h
  have a := jN h.1 h0 h1
  have b := nX h0 h1 l h.2
  simp only [bC,List.length_cons,Int.natCast_add,Int.add_mul] at *
  omega
def InC (u v d : Int × Int) : Prop := ∃ k a b : Int,0 < k ∧ 0 ≤ a ∧ 0 ≤ b ∧ k * d.1 = a * u.1 + b * v.1 ∧ k * d.2 = a * u.2 + b * v.2
def NSg (u v : Int × Int) (r : aI) : Prop := (0 ≤ bF u (bG r) ∧ 0 ≤ bF v (bG r)) ∨ (bF u (bG r) ≤ 0 ∧ bF v (bG r) ≤ 0)
theorem InC.left (u v : Int × Int) : InC u v u := ⟨1,1,0,by omega,by omega,by omega,by simp,by simp⟩
theorem InC.right (u v : Int × Int) : InC u v v := ⟨1,0,1,by omega,by omega,by omega,by simp,by simp⟩
theorem lH {k x : Int} (hk : 0 < k) (h : 0 ≤ k * x) : 0 ≤ x := Int.le_of_mul_le_mul_left (by simpa using h) hk
theorem sC {k x : Int} (hk : 0 < k) (h : k * x ≤ 0) : x ≤ 0 := Int.le_of_mul_le_mul_left (by simpa using h) hk
theorem InC.dot {u v d : Int × Int} {k a b : Int} (h1 : k * d.1 = a * u.1 + b * v.1) (h2 : k * d.2 = a * u.2 + b * v.2) (r : Int × Int) : k * bF d r = a * bF u r + b * bF v r := by
 simp only [bF]; grind
theorem NSg.inner {u v d : Int × Int} {r : aI} (h : NSg u v r) (hd : InC u v d) : (0 ≤ bF u (bG r) ∧ 0 ≤ bF v (bG r) ∧ 0 ≤ bF d (bG r)) ∨ (bF u (bG r) ≤ 0 ∧ bF v (bG r) ≤ 0 ∧ bF d (bG r) ≤ 0) := by
 obtain ⟨k,a,b,hk,ha,hb,h1,h2⟩ := hd
 have e := InC.dot h1 h2 (bG r)
 rcases h with ⟨p,q⟩ | ⟨p,q⟩
 · refine .inl ⟨p,q,lH hk ?_⟩
   have := Int.mul_nonneg ha p; have := Int.mul_nonneg hb q; omega
 · refine .inr ⟨p,q,sC hk ?_⟩
   have := Int.mul_nonpos_of_nonneg_of_nonpos ha p; have := Int.mul_nonpos_of_nonneg_of_nonpos hb q; omega
theorem NSg.mid {u v p : Int × Int} {r : aI} (h : NSg u v r) (hp : InC u v p) : NSg u p r ∧ NSg p v r := by
 rcases h.inner hp with ⟨a,b,c⟩ | ⟨a,b,c⟩
 · exact ⟨.inl ⟨a,c⟩,.inl ⟨c,b⟩⟩
 · exact ⟨.inr ⟨a,c⟩,.inr ⟨c,b⟩⟩
theorem InC.swap {u v d : Int × Int} (h : InC u v d) : InC v u d := by
 obtain ⟨k,a,b,hk,ha,hb,h1,h2⟩ := h
 exact ⟨k,b,a,hk,hb,ha,by omega,by omega⟩
theorem NSg.swap {u v : Int × Int} {r : aI} (h : NSg u v r) : NSg v u r := h.imp (fun x => ⟨x.2,x.1⟩) fun x => ⟨x.2,x.1⟩
theorem across {u v d : Int × Int} {r : aI} (hu : 0 < bF u (bG r)) (hv : bF v (bG r) < 0) (hr : r.x ≠ 0 ∨ r.y ≠ 0) (hd : InC u v d) :
 (InC u u d ∨ InC v v d) ∨ ∃ p,(p = (-r.y,r.x) ∨ p = (r.y,-r.x)) ∧ InC u v p ∧ (InC u p d ∨ InC p v d) := by
 obtain ⟨k,a,b,hk,ha,hb,h1,h2⟩ := hd
 obtain ⟨P,hP⟩ : ∃ P,P = bF u (bG r) := ⟨_,rfl⟩
 obtain ⟨Q,hQ⟩ : ∃ Q,Q = -bF v (bG r) := ⟨_,rfl⟩
 have p0 : 0 < P := by omega
 have q0 : 0 < Q := by omega
 obtain ⟨w1,hw1⟩ : ∃ w,w = Q * u.1 + P * v.1 := ⟨_,rfl⟩
 obtain ⟨w2,hw2⟩ : ∃ w,w = Q * u.2 + P * v.2 := ⟨_,rfl⟩
 obtain ⟨n,hn⟩ : ∃ n,n = r.x * r.x + r.y * r.y := ⟨_,rfl⟩
 obtain ⟨D,hD⟩ : ∃ D,D = r.x * w2 - r.y * w1 := ⟨_,rfl⟩
 have n0 : 0 < n := by
  have sq : ∀ z : Int,0 ≤ z * z := fun z => (Int.le_total 0 z).elim (fun h => Int.mul_nonneg h h) fun h => Int.mul_nonneg_of_nonpos_of_nonpos h h
  have sp : ∀ z : Int, z ≠ 0 → 0 < z * z := fun z hz => by have := sq z; have : z * z ≠ 0 := by simpa using hz
                                                           omega
  have := sq r.x; have := sq r.y
  rcases hr with h | h
  · have := sp _ h; omega
  · have := sp _ h; omega
 have hz : w1 * r.x + w2 * r.y = 0 := by simp only [bF,bG] at hP hQ; grind
 have e1 : n * w1 = -(r.y * D) := by grind
 have e2 : n * w2 = r.x * D := by grind
 have key : ∀ M : Int,0 < M → ∀ p : Int × Int,M * p.1 = n * w1 → M * p.2 = n * w2 → InC u v p ∧ (InC u p d ∨ InC p v d) := by
  intro M hM p g1 g2
  refine ⟨⟨M,n * Q,n * P,hM,Int.le_of_lt (Int.mul_pos n0 q0),Int.le_of_lt (Int.mul_pos n0 p0),by grind,by grind⟩,?_⟩
  rcases Int.le_total 0 (a * P - b * Q) with hs | hs
  · exact .inl ⟨n * (P * k),n * (a * P - b * Q),b * M,Int.mul_pos n0 (Int.mul_pos p0 hk),Int.mul_nonneg (Int.le_of_lt n0) hs,Int.mul_nonneg hb (Int.le_of_lt hM),by grind,by grind⟩
  · exact .inr ⟨n * (Q * k),a * M,n * (b * Q - a * P),Int.mul_pos n0 (Int.mul_pos q0 hk),Int.mul_nonneg ha (Int.le_of_lt hM),Int.mul_nonneg (Int.le_of_lt n0) (by omega),by grind,by grind⟩
 rcases Int.lt_trichotomy D 0 with hd0 | hd0 | hd0
 · exact .inr ⟨_,.inr rfl,key (-D) (by omega) (r.y,-r.x) (by simp only; grind) (by simp only; grind)⟩
 · left
   have z1 : w1 = 0 := by have : n * w1 = 0 := by rw [e1, hd0]; simp
                          exact (Int.mul_eq_zero.1 this).resolve_left (by omega)
   have z2 : w2 = 0 := by have : n * w2 = 0 := by rw [e2, hd0]; simp
                          exact (Int.mul_eq_zero.1 this).resolve_left (by omega)
   rcases Int.le_total 0 (a * P - b * Q) with hs | hs
   · exact .inl ⟨P * k,a * P - b * Q,0,Int.mul_pos p0 hk,hs,by omega,by grind,by grind⟩
   · exact .inr ⟨Q * k,b * Q - a * P,0,Int.mul_pos q0 hk,by omega,by omega,by grind,by grind⟩
 · exact .inr ⟨_,.inl rfl,key D hd0 (-r.y,r.x) (by simp only; grind) (by simp only; grind)⟩
theorem cone {S : Int × Int → Prop} {d : Int × Int} : ∀ (l done : List aI) (u v : Int × Int),(∀ r ∈ l,(r.x ≠ 0 ∨ r.y ≠ 0) ∧ S (-r.y,r.x) ∧ S (r.y,-r.x)) → S u → S v → InC u v d → (∀ r ∈ done,NSg u v r) →
 ∃ u v,S u ∧ S v ∧ InC u v d ∧ (∀ r ∈ done,NSg u v r) ∧ ∀ r ∈ l,NSg u v r
 | [],done,u,v,_,hu,hv,hd,hn => ⟨u,v,hu,hv,hd,hn,by simp⟩
 | r :: l,done,u,v,hl,hu,hv,hd,hn => by
  have hr := hl r (by simp)
  have go : ∀ u v,S u → S v → InC u v d → (∀ r ∈ done,NSg u v r) → NSg u v r → ∃ u v,S u ∧ S v ∧ InC u v d ∧ (∀ r ∈ done,NSg u v r) ∧ ∀ x ∈ r :: l,NSg u v x := by
   intro u v hu hv hd hn h
   obtain ⟨u',v',a,b,c,e,f⟩ := cone l (r :: done) u v (fun x hx => hl x (by simp [hx])) hu hv hd (by simpa using ⟨h,hn⟩)
   rw [List.forall_mem_cons] at e
   exact ⟨u',v',a,b,c,e.2,by simpa using ⟨e.1,f⟩⟩
  have go2 : ∀ u v,S u → S v → InC u v d → (∀ r ∈ done,NSg u v r) → 0 < bF u (bG r) → bF v (bG r) < 0 → ∃ u v,S u ∧ S v ∧ InC u v d ∧ (∀ r ∈ done,NSg u v r) ∧ ∀ x ∈ r :: l,NSg u v x := by
   intro u v hu hv hd hn h1 h2
   have self : ∀ (w : Int × Int) (x : aI),NSg w w x := fun w x => (Int.le_total 0 (bF w (bG x))).elim (fun h => .inl ⟨h,h⟩) fun h => .inr ⟨h,h⟩
   rcases across h1 h2 hr.1 hd with (h | h) | ⟨p,hp,hp1,h⟩
   · exact go u u hu hu h (fun x _ => self u x) (self u r)
   · exact go v v hv hv h (fun x _ => self v x) (self v r)
   · have sp : S p := hp.elim (fun e => e ▸ hr.2.1) fun e => e ▸ hr.2.2
     have zp : bF p (bG r) = 0 := by rcases hp with rfl | rfl <;> · simp only [bF,bG]; grind
     rcases h with h | h
     · exact go u p hu sp h (fun x hx => ((hn x hx).mid hp1).1) (.inl ⟨by omega,by omega⟩)
     · exact go p v sp hv h (fun x hx => ((hn x hx).mid hp1).2) (.inr ⟨by omega,by omega⟩)
  rcases Int.lt_trichotomy (bF u (bG r)) 0 with h1 | h1 | h1 <;> rcases Int.lt_trichotomy (bF v (bG r)) 0 with h2 | h2 | h2
  · exact go u v hu hv hd hn (.inr ⟨by omega,by omega⟩)
  · exact go u v hu hv hd hn (.inr ⟨by omega,by omega⟩)
  · exact go2 v u hv hu hd.swap (fun x hx => (hn x hx).swap) h2 h1
  · exact go u v hu hv hd hn (.inr ⟨by omega,by omega⟩)
  · exact go u v hu hv hd hn (.inr ⟨by omega,by omega⟩)
  · exact go u v hu hv hd hn (.inl ⟨by omega,by omega⟩)
  · exact go2 u v hu hv hd hn h1 h2
  · exact go u v hu hv hd hn (.inl ⟨by omega,by omega⟩)
  · exact go u v hu hv hd hn (.inl ⟨by omega,by omega⟩)
theorem mQ {u v d : Int × Int} {k a b : Int} (hk : 0 < k) (ha : 0 ≤ a) (hb : 0 ≤ b) (h1 : k * d.1 = a * u.1 + b * v.1) (h2 : k * d.2 = a * u.2 + b * v.2) : ∀ l : List aI,(∀ r ∈ l,NSg u v r) → k * bC l d = a * bC l u + b * bC l v
 | [],_ => by simp [bC]
 | r :: l,h => by
  have ih := mQ hk ha hb h1 h2 l fun x hx => h x (by simp [hx])
  have hi := (h r (by simp)).inner ⟨k,a,b,hk,ha,hb,h1,h2⟩
  have e := InC.dot h1 h2 (bG r)
  simp only [bC]
  rcases hi with ⟨p,q,s⟩ | ⟨p,q,s⟩
  · rw [Int.max_eq_right p,Int.max_eq_right q,Int.max_eq_right s]; grind
  · rw [Int.max_eq_left p,Int.max_eq_left q,Int.max_eq_left s]; grind
theorem rO (d : Int × Int) : ∃ u v,u ∈ dO ∧ v ∈ dO ∧ InC u v d := by
 rcases Int.le_total 0 d.1 with h1 | h1 <;> rcases Int.le_total 0 d.2 with h2 | h2
 · exact ⟨(1,0),(0,1),by simp [dO],by simp [dO],1,d.1,d.2,by omega,h1,h2,by simp,by simp⟩
 · exact ⟨(1,0),(0,-1),by simp [dO],by simp [dO],1,d.1,-d.2,by omega,h1,by omega,by simp,by simp⟩
 · exact ⟨(-1,0),(0,1),by simp [dO],by simp [dO],1,-d.1,d.2,by omega,by omega,h2,by simp,by simp⟩
 · exact ⟨(-1,0),(0,-1),by simp [dO],by simp [dO],1,-d.1,-d.2,by omega,by omega,by omega,by simp,by simp⟩
theorem zI {l : List aI} {f : Int × Int} (hl : l.all aV = true) (h : ∀ d ∈ eT l,-(bF d f) ≤ bC l d) (d : Int × Int) : -(bF d f) ≤ bC l d := by
 obtain ⟨u,v,hu,hv,hd⟩ := rO d
 obtain ⟨u,v,hu,hv,⟨k,a,b,hk,ha,hb,h1,h2⟩,_,hn⟩ := cone (S := fun x => x ∈ eT l) l [] u v (fun r hr => by
  have := List.all_eq_true.1 hl r hr
  simp only [aV,Bool.and_eq_true,Bool.or_eq_true,decide_eq_true_eq] at this
  refine ⟨this.2.2.1,List.mem_append_left _ (List.mem_flatMap.2 ⟨r,hr,by simp [iD]⟩),List.mem_append_left _ (List.mem_flatMap.2 ⟨r,hr,by simp [iD]⟩)⟩) (List.mem_append_right _ hu) (List.mem_append_right _ hv) hd (by simp)
 have e := mQ hk ha hb h1 h2 l hn
 have e2 := InC.dot h1 h2 f
 have g1 := Int.mul_nonneg ha (show 0 ≤ bC l u + bF u f by have := h u hu; omega)
 have g2 := Int.mul_nonneg hb (show 0 ≤ bC l v + bF v f by have := h v hv; omega)
 have := lH hk (x := bC l d + bF d f) (by rw [Int.mul_add] at g1 g2 ⊢; omega)
 omega
end Go.Proofs.Ab
namespace Go.Proofs.Ab
open Go Go.Proofs
variable {w0 : World} {h : aA}
attribute [local irreducible] ACall aZ cX bA eD rvC lp rg dr ex un rv
@[go_sem] def aI.c (r : aI) : List AV := [.int .i64 r.x,.int .i64 r.y,.int .i64 r.s]
@[go_sem] def dI.c (w : dI) : List AV := [.int .i64 w.xl,.int .i64 w.xh,.int .i64 w.yl,.int .i64 w.yh]
@[go_sem] def pC (p : Int × Int) : List AV := [.int .i64 p.1,.int .i64 p.2]
def Bd (D : Int) (p : Int × Int) : Prop := (-D ≤ p.1 ∧ p.1 ≤ D) ∧ -D ≤ p.2 ∧ p.2 ≤ D
theorem by_c (p q : Int × Int) {D E : Int} (hp : Bd D p) (hq : Bd E q) (hD : D * E ≤ 1000000000000) : bA Tryz.prog w0 126 [.agg (pC p),.agg (pC q)] h (.int .i64 (bF p q)) h := by
 refine aP aX qJ uP uO (qE rfl) (by simp [AV.bdd,AV.bdds]) fun hb ha => bB ?_
 have h1 := cO hp.1.1 hp.1.2 hq.1.1 hq.1.2
 have h2 := cO hp.2.1 hp.2.2 hq.2.1 hq.2.2
 simp only [go_sem,mf126]
 exact ⟨(by unfold I64; omega),(by unfold I64; omega),(by unfold I64; omega),rfl⟩
theorem wQ (l m : List aI) (d : Int × Int) : bC (l ++ m) d = bC l d + bC m d := by
 induction l with
 | nil => simp [bC]
 | cons r l ih => simp only [List.cons_append,bC,ih]; omega
theorem lG {l : List aI} {j : Nat} (hj : j < l.length) (d : Int × Int) : bC (l.take (j + 1)) d = bC (l.take j) d + l[j].s * max 0 (bF d (bG l[j])) := by
 rw [List.take_succ_eq_append_getElem hj,wQ]; simp [bC]
theorem pull_c (d : Int × Int) {v : AV} {l : List aI} {D : Int} (hd : Bd D d) (hD0 : 0 ≤ D) (hD : D ≤ 10000) (hv : Sl w0 h 3 v (l.map aI.c)) (hl : l.all aV = true) (hn : l.length ≤ 20) :
 bA Tryz.prog w0 127 [.agg (pC d),v] h (.int .i64 (bC l d)) h := by
 refine aP aX pZ uN uM (qE rfl) (by simp [AV.bdd,AV.bdds]) fun hb ha => bB ?_
 obtain ⟨hlen,q,hix,hrow,_⟩ := hv.use
 rw [List.length_map] at hlen hix
 have vb := hv.bdd (Nat.le_refl _)
 simp only [go_sem,mf127,hlen]
 have key : ∀ j : Nat,0 ≤ bC (l.take j) d ∧ bC (l.take j) d ≤ 20 * (1000000 * (D * 200)) := fun j => by
  have := nX hd.1 hd.2 (l.take j) (by rw [List.all_eq_true] at hl ⊢; exact fun x hx => hl x (List.mem_of_mem_take hx))
  have h2 : ((l.take j).length : Int) * (1000000 * (D * 200)) ≤ 20 * (1000000 * (D * 200)) := Int.mul_le_mul_of_nonneg_right (by rw [List.length_take]; omega) (by omega)
  omega
 refine gD (S := Nat) (F := fun j => [(2,.ptr (.own h.length 0)),(5,.int .i64 (bC (l.take j) d)),(8,v),(9,.int .i64 l.length),(10,.int .i64 j)]) (H := fun _ => h ++ [some (.row (pC d))]) (meas := fun j => l.length - j) (Inv := fun j => j ≤ l.length) 0 (Nat.zero_le _) (by simp [bC]) rfl ?_
 intro j hj ih
 refine bH aX aBg [2,5,8,9,10] L127_0.eq_1 ?_
 by_cases hjl : j < l.length
 · have e1 : (j : Int) < l.length := by omega
   have e2 := hix j hjl
   have hr : (l.map aI.c)[j]? = some l[j].c := by rw [List.getElem?_map,qA hjl]; rfl
   have e3 : ∀ L,rdn w0 (h ++ L) (q.add (j * 3)) 3 = some l[j].c := fun L => eG (hrow j _ hr)
   have hR := List.all_eq_true.1 hl _ (qG hjl)
   have hb1 := jN hR hd.1 hd.2
   have k1 := key j
   have hrb : Bd 100 (bG l[j]) := by
    simp only [aV,inB,Bool.and_eq_true,decide_eq_true_eq] at hR
    exact ⟨hR.1,hR.2.1⟩
   simp only [go_sem,e1,e2,e3]
   refine vO aX [0,1,2,3,4,5,6,7,8,9,10,11,12,13] [o_ 14 (m_ 5),o_ 15 (.addr (.t 7) 2),o_ 16 (l_ 15),o_ 17 (.load (.t 2) (some 2)),o_ 18 (.addr (.t 7) 0),o_ 19 (l_ 18),o_ 20 (.addr (.t 7) 1),o_ 21 (l_ 20),o_ 22 (.build [(.int .i64 0),(.int .i64 0)] [(0,1,(.t 19)),(1,1,(.t 21))]),.call (some 23) none (f_ 126) [(.t 17),(.t 22)]] [([(2,o_ 16 (l_ 15))],[o_ 24 (.minmax false [(i_ 0),(.t 23)]),o_ 25 (.bin .mul (.t 16) (.t 24)),o_ 26 (.bin .add (.t 14) (.t 25)),o_ 5 (m_ 26)])] rfl rfl (by kernel_rfl) ?_
   simp only [go_sem,e1]
   refine aO (by_c d (bG l[j]) hd hrb (by omega)).v ?_
   simp only [go_sem]
   refine ⟨(by unfold I64; omega),(by unfold I64; omega),(by unfold I64; omega),gS 1 hb (by simp [dK,dL,eI,eJ,fR,eF,AV.bdds,AV.bdd,Pl.bdd,cP]) (by simp [dK,dL,eI,eJ,fR,eF,AV.bdds,AV.bdd,Pl.bdd,cP]; exact AV.bdd_mono (by omega) _ vb) ?_⟩
   have := ih (j + 1) (by omega) (by omega)
   rw [lG hjl] at this
   simpa [pC] using this
 · have e1 : ¬ (j : Int) < l.length := by omega
   obtain rfl : j = l.length := by omega
   simp only [go_sem,e1]
   simp
theorem aDM (d f : Int × Int) {v : AV} {l : List aI} {p q : Pl} (hd : Bd 10000 d) (hf : Bd 1000000 f) (hp : rdn w0 h p 2 = some (pC f)) (hq : rd w0 h q = some v) (hv : Sl w0 h 3 v (l.map aI.c)) (hl : l.all aV = true) (hn : l.length ≤ 20) :
 bA Tryz.prog w0 125 [.agg (pC d),.ptr p,.ptr q] h (.bool (fI l f d)) h := by
 refine aP aX qK uR uQ (qE rfl) (by simp [AV.bdd,AV.bdds]) fun hb ha => bB ?_
 have e1 : ∀ L,rdn w0 (h ++ L) p 2 = some (pC f) := fun L => eG hp
 have e2 : ∀ L,rd w0 (h ++ L) q = some v := fun L => fL hq
 have h1 := cO hd.1.1 hd.1.2 hf.1.1 hf.1.2
 have h2 := cO hd.2.1 hd.2.2 hf.2.1 hf.2.2
 simp only [go_sem,mf125]
 refine vO aX [0,1,4,5,2,3,6,7,8] [o_ 5 (.load (.t 3) (some 2)),o_ 6 (.load (.t 1) (some 2)),o_ 9 (.load (.t 3) (some 2)),o_ 10 (l_ 2),.call (some 7) none (f_ 126) [(.t 5),(.t 6)]] [([(2,o_ 9 (.load (.t 3) (some 2))),(3,o_ 10 (l_ 2))],[o_ 8 (.un .neg (.t 7)),.call (some 11) none (f_ 127) [(.t 9),(.t 10)],o_ 12 (.bin .gtr (.t 8) (.t 11)),o_ 4 (m_ 12)])] rfl rfl (by kernel_rfl) ?_
 simp only [go_sem,e1,e2]
 refine aO (by_c d f hd hf (by omega)).v ?_
 simp only [go_sem,e2]
 have hi : I64 (0 - bF d f) := by unfold I64; simp only [bF]; omega
 refine ⟨hi,?_⟩
 refine aO (pull_c d hd (by omega) (by omega) (hv.app) hl hn).v ?_
 simp only [go_sem]
 simp only [fI,Int.zero_sub]
theorem dirs_c {v : AV} (hv : cellsOf v = some [v]) : ACall Tryz.prog w0 124 [v] h fun y H => y = .fn (.func 143) [] [.ptr (.own h.length 0)] ∧ H = h ++ [some (.row [v])] := by
 refine bR aX qL uT uS (qE rfl) fun hb ha => bB ?_
 simp only [go_sem,mf124,hv]
def PV (x : Int × Int) (_ : aA) (args : List AV) : Prop := args = [.agg (pC x)]
theorem zK {l : List (Int × Int)} {j : Nat} (hj : j < l.length) : ((((l.map pC).flatten).drop (j * 2)).take 2) = pC l[j] := by
 have := vL (rows := l.map pC) (es := 2) (fun c hc => by obtain ⟨x,_,rfl⟩ := List.mem_map.1 hc; rfl) (j := j) (c := pC l[j]) (by rw [List.getElem?_map,qA hj]; rfl)
 exact this.2.1
theorem aDQ {C : List Nat} {q : Nat} {p : Pl} {v : AV} {l : List aI} {K : aA → Prop} (hp : rd w0 (msk C h) p = some v) (hv : Sl w0 (msk C h) 3 v (l.map aI.c)) (hl : l.all aV = true) (hn : l.length ≤ 20)
 (hI : eA Tryz.prog w0 q C PV (· = []) K (eT l) [] h) : ACall Tryz.prog w0 143 [.yld q,.ptr p] h fun _ H => K H := by
 refine bR aX pY uL uK (qE rfl) fun hb ha => bB ?_
 have e0 : ∀ L,rd w0 (h ++ L) p = some v := fun L => fL (vJ.rd hp)
 have hlen : mI v = some (.int .i64 l.length) := by have := hv.use.1; rwa [List.length_map] at this
 simp only [go_sem,mf143,e0,hlen]
 refine gD (S := Nat × aA) (F := fun s => [(0,.yld q),(9,v),(10,.int .i64 l.length),(11,.int .i64 s.1)]) (H := fun s => s.2) (meas := fun s => l.length - s.1)
  (Inv := fun s => s.1 ≤ l.length ∧ bU C h s.2 ∧ eA Tryz.prog w0 q C PV (· = []) K ((l.drop s.1).flatMap iD ++ dO) [] s.2) (0,h) ⟨Nat.zero_le _,bU.refl,by simpa [eT] using hI⟩ rfl (by simp) ?_
 rintro ⟨j,H⟩ ⟨hj,kH,iH⟩ ih
 simp only at hj kH iH ih ⊢
 refine bH aX aBe [0,9,10,11] L143_1.eq_1 ?_
 by_cases hjl : j < l.length
 · have e1 : (j : Int) < l.length := by omega
   have hvH := hv.sub ((kH.msk (ms := C) fun i hi => .inl hi).trans (vJ (ms := C)))
   obtain ⟨_,p3,hix,hrow,_⟩ := hvH.use
   rw [List.length_map] at hix
   have e2 := hix j hjl
   have hr : (l.map aI.c)[j]? = some l[j].c := by rw [List.getElem?_map,qA hjl]; rfl
   have e3 : ∀ L,rdn w0 (H ++ L) (p3.add (j * 3)) 3 = some l[j].c := fun L => eG (hrow j _ hr)
   have e3' := hrow j _ hr
   have hR := List.all_eq_true.1 hl _ (qG hjl)
   simp only [aV,inB,Bool.and_eq_true,decide_eq_true_eq] at hR
   obtain ⟨r,hr'⟩ : ∃ r,r = l[j] := ⟨_,rfl⟩
   rw [← hr'] at hR
   rw [List.drop_eq_getElem_cons hjl,List.flatMap_cons,← hr',List.append_assoc] at iH
   simp only [go_sem,e1,e2,e3,e3',← hr',Int.zero_sub]
   refine ⟨(by unfold I64; omega),(by unfold I64; omega),(by unfold I64; omega),(by unfold I64; omega),?_⟩
   refine gD (S := Nat × aA) (F := fun s => [(0,.yld q),(9,v),(10,.int .i64 l.length),(11,.int .i64 j),(39,.agg ((iD r).map pC).flatten),(40,.int .i64 s.1)]) (H := fun s => s.2) (meas := fun s => 4 - s.1)
    (Inv := fun s => s.1 ≤ 4 ∧ bU C h s.2 ∧ eA Tryz.prog w0 q C PV (· = []) K ((iD r).drop s.1 ++ ((l.drop (j + 1)).flatMap iD ++ dO)) [] s.2) (0,_) ⟨by simp,kH.app,iH.keep aL.refl.app.toK⟩ rfl rfl ?_
   rintro ⟨i,G⟩ ⟨hi,kG,iG⟩ ih2
   simp only at hi kG iG ih2 ⊢
   refine bH aX aBf [0,9,10,11,39,40] L143_0.eq_1 ?_
   by_cases hi4 : i < 4
   · have e4 : (i : Int) < 4 := by omega
     have hx := zK (l := iD r) (j := i) hi4
     rw [List.drop_eq_getElem_cons (show i < (iD r).length from hi4),List.cons_append] at iG
     simp only [go_sem,e4,hi4,hx]
     refine bI (eA.call iG aL.refl.app.toK [] rfl (fun i hi => by cases hi) (fun i hi => by cases hi) rfl) ?_
     rintro y G1 ⟨k1,r1⟩
     have k2 : bU C h G1 := kG.trans ((aL.refl.app.toK (C := C)).trans k1)
     rcases r1 with ⟨rfl,it⟩ | ⟨rfl,kk⟩
     · simp only [go_sem]
       exact ⟨(by unfold I64; omega),ih2 (i + 1,G1) ⟨by simp only; omega,k2,it⟩ (by simp only; omega)⟩
     · simp only [go_sem]
       exact kk _ bU.refl
   · have e4 : ¬ (i : Int) < 4 := by omega
     obtain rfl : i = 4 := by omega
     simp only [go_sem,e4]
     exact ⟨(by unfold I64; omega),ih (j + 1,G) ⟨by simp only; omega,kG,iG⟩ (by simp only; omega)⟩
 · have e1 : ¬ (j : Int) < l.length := by omega
   obtain rfl : j = l.length := by omega
   rw [List.drop_length,List.flatMap_nil,List.nil_append] at iH
   simp only [go_sem,e1]
   refine gD (S := Nat × aA) (F := fun s => [(0,.yld q),(53,.agg (dO.map pC).flatten),(54,.int .i64 s.1)]) (H := fun s => s.2) (meas := fun s => 4 - s.1)
    (Inv := fun s => s.1 ≤ 4 ∧ eA Tryz.prog w0 q C PV (· = []) K (dO.drop s.1) [] s.2) (0,_) ⟨by simp,iH⟩ rfl (by simp) ?_
   rintro ⟨i,G⟩ ⟨hi,iG⟩ ih2
   simp only at hi iG ih2 ⊢
   refine bH aX aBd [0,53,54] L143_2.eq_1 ?_
   by_cases hi4 : i < 4
   · have e4 : (i : Int) < 4 := by omega
     have hx := zK (l := dO) (j := i) hi4
     rw [List.drop_eq_getElem_cons (show i < dO.length from hi4)] at iG
     simp only [go_sem,e4,hi4,hx]
     refine bI (eA.call iG aL.refl.app.toK [] rfl (fun i hi => by cases hi) (fun i hi => by cases hi) rfl) ?_
     rintro y G1 ⟨k1,r1⟩
     rcases r1 with ⟨rfl,it⟩ | ⟨rfl,kk⟩
     · simp only [go_sem]
       exact ⟨(by unfold I64; omega),ih2 (i + 1,G1) ⟨by simp only; omega,it⟩ (by simp only; omega)⟩
     · simp only [go_sem]
       exact kk _ bU.refl
   · have e4 : ¬ (i : Int) < 4 := by omega
     obtain rfl : i = 4 := by omega
     simp only [go_sem,e4]
     exact iG _ bU.refl
def jR (o : Option (Int × Int)) : AV := match o with
 | some d => .tup [.agg (pC d),.bool true]
 | none => .tup [.agg (pC (0,0)),.bool false]
theorem oG {p : Pl} {v fv : AV} {l : List aI} (P : Int × Int → Bool) (hp : rd w0 h p = some v) (hv : Sl w0 h 3 v (l.map aI.c)) (hl : l.all aV = true) (hn : l.length ≤ 20) (hfo : cellsOf fv = some [fv])
 (hf : ∀ d ∈ eT l,∀ H,aL h H → eD Tryz.prog w0 fv [.agg (pC d)] H (.bool (P d)) H) :
 bA Tryz.prog w0 123 [.fn (.func 143) [] [.ptr p],fv] h (jR ((eT l).find? P)) h := by
 have hbv : ∀ N,(jR ((eT l).find? P)).bdd N := fun N => by unfold jR; split <;> simp [AV.bdd,AV.bdds,pC]
 refine eK (hbv _) (bR aX qM uV uU (qE rfl) fun hb ha => bB ?_)
 simp only [go_sem,mf123,hfo]
 refine tU [3,4,5,8] ?_
 simp only [go_sem]
 refine zD (fid := 143) (first := []) rfl (.inl rfl) fun hca hcb hps => ?_
 simp only [go_sem]
 obtain ⟨N,eN⟩ : ∃ N,N = h.length := ⟨_,rfl⟩
 obtain ⟨LB,hLB⟩ : ∃ LB : LoopState → Option Code → Blk,LB = Blk.loop 15 [(3,AV.ptr (Pl.own (List.length h) 0)),(4,AV.ptr (Pl.own (List.length h + 1) 0)),(5,AV.ptr (Pl.own (List.length h + 2) 0)),(8,AV.fn (Fn.func 143) [] [AV.ptr p])] #[9] (bK (cN 123) [1,0,1,0,0]) (bK (cN 123) [1,0,1,0,1]) := ⟨_,rfl⟩
 rw [← hLB]
 obtain ⟨C,eC⟩ : ∃ C,C = [N + 1,N + 2,N + 3] := ⟨_,rfl⟩
 obtain ⟨G0,eG0⟩ : ∃ G0 : aA,G0 = h ++ [some (.row [fv]),some (.row [.int .i64 0,.int .i64 0]),some (.row [.bool false]),some (LB .ready none)] := ⟨_,rfl⟩
 have hm : aL h (msk C G0) := by
  rw [eG0]
  refine ⟨by rw [fB]; simp,fun i b e => ?_⟩
  have := aS e
  rw [kR (by rw [eC]; simp; omega)]; exact aD e
 rw [← eG0,← eN]
 refine aDQ (C := C) (hm.rd hp) (hv.sub hm) hl hn ?_
 have claim : ∀ (r : List (Int × Int)),(∀ d ∈ r,d ∈ eT l) → (eT l).find? P = r.find? P → ∀ H,aL h H → H[N]? = some (some (.row [fv])) → H[N + 1]? = some (some (.row [.int .i64 0,.int .i64 0])) → H[N + 2]? = some (some (.row [.bool false])) → H[N + 3]? = some (some (LB .ready none)) →
  eA Tryz.prog w0 (N + 3) C PV (· = []) (fun h' => rgE Tryz.prog w0 none 15 N (wP w0 [RV.c 4 (some 2),RV.c 5 none] fun v' h' => aL h h' ∧ v' = jR (List.find? P (eT l)))
  [It.inBlk 0,It.code ((SC.reg [MIx.op (some 7) none (MOp.alloc [AV.int IntKind.i64 0,AV.int IntKind.i64 0])]).seq ((SC.reg [MIx.op (some 14) none (MOp.load (Opd.t 7) (some 2)),MIx.op none none (MOp.store (Opd.t 4) (Opd.t 14) 2),MIx.op none none (MOp.store (Opd.t 5) (Opd.k (AV.bool false)) 1)]).seq SC.ret))]
  [(3,AV.ptr (Pl.own N 0)),(4,AV.ptr (Pl.own (N + 1) 0)),(5,AV.ptr (Pl.own (N + 2) 0)),(8,AV.fn (Fn.func 143) [] [AV.ptr p])] h'[N + 3]? (List.set h' (N + 3) none)) r [] H := by
  intro r
  induction r with
  | nil =>
   intro hr hfd H sH g0 g1 g2 g3 H2 kp
   have f1 := kp.at_ _ _ (by simp) g1
   have f2 := kp.at_ _ _ (by simp) g2
   have f3 := kp.at_ _ _ (by simp) g3
   have s2 : aL h H2 := ⟨Nat.le_trans sH.1 kp.le,fun i b e => kp.at_ _ _ (by simp) (sH.2 _ _ e)⟩
   obtain ⟨X,eX⟩ : ∃ X,X = H2.set (N + 3) none := ⟨_,rfl⟩
   have lX : X.length = H2.length := by rw [eX,List.length_set]
   have q3 := aS f3
   have x1 : ∀ L,(X ++ L)[N + 1]? = some (some (.row [.int .i64 0,.int .i64 0])) := fun L => aD (by rw [eX,qB (by omega)]; exact f1)
   have x2 : ∀ L b,((X ++ L).set (N + 1) b)[N + 2]? = some (some (.row [.bool false])) := fun L b => by
    rw [qB (by omega)]; exact aD (by rw [eX,qB (by omega)]; exact f2)
   have x3 : ∀ L b b',(((X ++ L).set (N + 1) b).set (N + 2) b')[N + 1]? = some b := fun L b b' => by
    rw [qB (by omega),qF (by simp; omega)]
   have x4 : ∀ L b b',(((X ++ L).set (N + 1) b).set (N + 2) b')[N + 2]? = some b' := fun L b b' => by
    rw [qF (by simp; omega)]
   simp only [f3,← eX,hLB]
   simp only [go_sem,x1,x2,x3,x4]
   have s3 : aL h X := by rw [eX]; exact s2.setR (by omega)
   exact ⟨(s3.app.setR (by omega)).setR (by omega),by rw [hfd]; rfl⟩
  | cons x r ih =>
   intro hr hfd H sH g0 g1 g2 g3 H2 args O2 hO kp hO1 hO2 hV
   subst hV
   have f0 := kp.at_ _ _ (by simp) g0
   have f1 := kp.at_ _ _ (by simp) g1
   have f2 := kp.at_ _ _ (by simp) g2
   have f3 := kp.at_ _ _ (by simp) g3
   have s2 : aL h H2 := ⟨Nat.le_trans sH.1 kp.le,fun i b e => kp.at_ _ _ (by simp) (sH.2 _ _ e)⟩
   have q3 := aS f3
   have f3' := f3
   rw [hLB,← eN] at f3'
   refine nL (psl := [9]) aX rfl xX xW oT.eq_1 R123_0b.eq_1 f3' rfl hps hca hcb fun hb2 ha2 => ?_
   obtain ⟨LY,hLY⟩ : ∃ b,b = Blk.loop 15 [(3,AV.ptr (Pl.own N 0)),(4,AV.ptr (Pl.own (N + 1) 0)),(5,AV.ptr (Pl.own (N + 2) 0)),(8,AV.fn (Fn.func 143) [] [AV.ptr p])] #[9] (bK (cN 123) [1,0,1,0,0]) (bK (cN 123) [1,0,1,0,1]) LoopState.busy none := ⟨_,rfl⟩
   have f3a : ∀ L,(H2 ++ L)[N + 3]? = _ := fun L => aD (k := L) f3'
   simp only [go_sem,f3a]
   rw [← hLY]
   obtain ⟨Y,eY⟩ : ∃ Y,Y = (H2 ++ [some (Blk.row [AV.int IntKind.i64 x.1,AV.int IntKind.i64 x.2])]).set (N + 3) (some LY) := ⟨_,rfl⟩
   have lY : Y.length = H2.length + 1 := by rw [eY]; simp
   have old : ∀ (i : Nat) b,i ≠ N + 3 → H2[i]? = some (some b) → Y[i]? = some (some b) := fun i b hi e => by
    rw [eY,qB (fun e => hi e.symm)]; exact aD e
   have y0 := old _ _ (by omega) f0
   have y1 := old _ _ (by omega) f1
   have y2 := old _ _ (by omega) f2
   have y3 : Y[N + 3]? = some (some LY) := by rw [eY,qF (by simp; omega)]
   have y4 : Y[H2.length]? = some (some (.row [AV.int IntKind.i64 x.1,AV.int IntKind.i64 x.2])) := by
    rw [eY,qB (by omega),qI (Nat.le_refl _),Nat.sub_self]; rfl
   have sY : aL h Y := ⟨by have := s2.1; omega,fun i b e => old i b (by have := aS e; omega) (s2.2 _ _ e)⟩
   have kY : bU C H2 Y := ⟨by omega,fun i b hi e => old i b (fun e => hi (by rw [eC,e]; simp)) e⟩
   rw [← eY]
   simp only [go_sem,y0,y4]
   refine aO (hf x (hr x (by simp)) Y sY) ?_
   cases hP : P x with
   | true =>
    have y5 : ∀ b,(Y.set (N + 1) b)[N + 2]? = some (some (.row [.bool false])) := fun b => by rw [qB (by omega)]; exact y2
    have y6 : ∀ b b',((Y.set (N + 1) b).set (N + 2) b')[N + 3]? = some (some LY) := fun b b' => by rw [qB (by omega),qB (by omega)]; exact y3
    simp only [go_sem,y1,y4,y5,y6]
    refine ⟨⟨_,_,by rw [hLY]⟩,?_⟩
    refine ⟨((kY.set (.inl (by rw [eC]; simp))).set (.inl (by rw [eC]; simp))).set (.inl (by rw [eC]; simp)),.inr fun H4 k4 => ?_⟩
    subst hO
    have z1 := k4.at_ (N + 1) (.row [AV.int IntKind.i64 x.1,AV.int IntKind.i64 x.2]) (by simp) (by rw [qB (by omega),qB (by omega),qF (by omega)])
    have z2 := k4.at_ (N + 2) (.row [AV.bool true]) (by simp) (by rw [qB (by omega),qF (by simp; omega)])
    have z3 := k4.at_ (N + 3) _ (by simp) (qF (by simp; omega))
    have z4 : (H4.set (N + 3) none)[N + 1]? = some (some (.row [AV.int IntKind.i64 x.1,AV.int IntKind.i64 x.2])) := by rw [qB (by omega)]; exact z1
    have z5 : (H4.set (N + 3) none)[N + 2]? = some (some (.row [AV.bool true])) := by rw [qB (by omega)]; exact z2
    have s4 : aL h H4 := ⟨by have := k4.le; simp at this; have := sY.1; omega,fun i b e => k4.at_ _ _ (by simp) (by
     have := aS e
     rw [qB (by omega),qB (by omega),qB (by omega)]; exact sY.2 _ _ e)⟩
    simp only [go_sem,z3,z4,z5]
    exact ⟨s4.setR (by omega),by rw [hfd,List.find?_cons_of_pos hP]; rfl⟩
   | false =>
    simp only [go_sem,y3]
    refine ⟨⟨_,_,by rw [hLY]⟩,?_⟩
    refine ⟨kY.set (.inl (by rw [eC]; simp)),.inl ?_⟩
    subst hO
    refine ih (fun d hd => hr d (by simp [hd])) (by rw [hfd,List.find?_cons_of_neg (by simp [hP])]) _ (sY.setR (by omega)) ?_ ?_ ?_ ?_
    · rw [qB (by omega)]; exact y0
    · rw [qB (by omega)]; exact y1
    · rw [qB (by omega)]; exact y2
    · rw [qF (by omega),hLB,← eN]
 refine claim _ (fun _ hd => hd) rfl G0 (eG0 ▸ aL.refl.app) ?_ ?_ ?_ ?_
 all_goals
  rw [eG0,eN,qI (by omega)]; simp
def holdV (o : Option ((Int × Int) × (Int × Int))) : List AV := match o with
 | some (f,d) => [.bool false,.agg [.int .i64 f.1,.int .i64 f.2,.int .i64 d.1,.int .i64 d.2]]
 | none => [.bool true,.agg [.int .i64 0,.int .i64 0,.int .i64 0,.int .i64 0]]
theorem vP {l : List aI} (hl : l.all aV = true) : ∀ d ∈ eT l,Bd 100 d := fun d hd => by
 rcases List.mem_append.1 hd with hd | hd
 · obtain ⟨r,hr,hd⟩ := List.mem_flatMap.1 hd
   have hR := List.all_eq_true.1 hl r hr
   simp only [aV,inB,Bool.and_eq_true,decide_eq_true_eq] at hR
   simp only [iD,List.mem_cons,List.not_mem_nil,or_false] at hd
   unfold Bd
   rcases hd with rfl | rfl | rfl | rfl <;> simp only <;> omega
 · simp only [dO,List.mem_cons,List.not_mem_nil,or_false] at hd
   unfold Bd
   rcases hd with rfl | rfl | rfl | rfl <;> simp only <;> omega
theorem lW {w : dI} (hw : eZ w = true) : ∀ f ∈ cC w,Bd 1000000 f := fun f hf => by
 simp only [eZ,dT,Bool.and_eq_true,decide_eq_true_eq] at hw
 simp only [cC,List.mem_cons,List.not_mem_nil,or_false] at hf
 unfold Bd
 rcases hf with rfl | rfl | rfl | rfl <;> simp only <;> omega
theorem pc_bdd (l : List (Int × Int)) (N : Nat) : AV.bdds N (l.map pC).flatten := aQ.2 fun x hx => by
 obtain ⟨c,hc,hx⟩ := List.mem_flatten.1 hx
 obtain ⟨y,_,rfl⟩ := List.mem_map.1 hc
 simp only [pC,List.mem_cons,List.not_mem_nil,or_false] at hx
 rcases hx with rfl | rfl <;> trivial
theorem hold_c (w : dI) {v : AV} {l : List aI} (hv : Sl w0 h 3 v (l.map aI.c)) (hl : l.all aV = true) (hn : l.length ≤ 20) (hw : eZ w = true) :
 bA Tryz.prog w0 80 [.agg w.c,v] h (.tup (holdV (jE l w))) h := by
 have hbv : ∀ N,(AV.tup (holdV (jE l w))).bdd N := fun N => by
  unfold holdV; split <;> simp [AV.bdd,AV.bdds]
 refine eK (hbv _) (bR aX uB zU zT (qE rfl) fun hb ha => bB ?_)
 have o := Sl.one hv
 have vb := hv.bdd (Nat.le_refl _)
 simp only [go_sem,mf80,o.1,o.2]
 refine gD (S := Nat) (F := fun i => [(3,.ptr (.own (h.length + 1) 0)),(5,.ptr (.own (h.length + 2) 0)),(38,.agg ((cC w).map pC).flatten),(39,.int .i64 i)])
  (H := fun _ => h ++ [some (.row w.c),some (.row [v]),some (.row [.int .i64 0,.int .i64 0,.int .i64 0,.int .i64 0])]) (meas := fun i => 4 - i)
  (Inv := fun i => i ≤ 4 ∧ jE l w = ((cC w).drop i).findSome? fun f => (eM l f).map fun d => (f,d)) 0 ⟨Nat.zero_le _,rfl⟩ rfl rfl ?_
 rintro i ⟨hi,hH⟩ ih
 refine bH aX aDT [3,5,38,39] L80_0.eq_1 ?_
 by_cases hi4 : i < 4
 · have e1 : (i : Int) < 4 := by omega
   have hcl : i < (cC w).length := hi4
   have hx := zK hcl
   rw [List.drop_eq_getElem_cons hcl,List.findSome?_cons] at hH
   obtain ⟨f,hf⟩ : ∃ f,f = (cC w)[i]'hcl := ⟨_,rfl⟩
   have hfb : Bd 1000000 f := hf ▸ lW hw _ (qG hcl)
   rw [← hf] at hx hH
   simp only [go_sem,e1,hi4,hx]
   refine bI (ACall.vc (first := []) (args := [v]) (dirs_c o.2)) ?_
   rintro _ _ ⟨rfl,rfl⟩
   simp only [go_sem]
   obtain ⟨X,eX⟩ : ∃ X,X = h ++ [some (.row w.c),some (.row [v]),some (.row [.int .i64 0,.int .i64 0,.int .i64 0,.int .i64 0]),some (.row (pC f)),some (.row [v])] := ⟨_,rfl⟩
   have sX : aL h X := eX ▸ aL.refl.app
   have x1 : X[h.length + 1]? = some (some (.row [v])) := by rw [eX,qI (by omega)]; simp
   have x3 : X[h.length + 3]? = some (some (.row (pC f))) := by rw [eX,qI (by omega)]; simp
   have x4 : X[h.length + 4]? = some (some (.row [v])) := by rw [eX,qI (by omega)]; simp
   have hfirst := oG (w0 := w0) (h := X) (p := .own (h.length + 4) 0) (fv := .fn (.func 125) [] [.ptr (.own (h.length + 3) 0),.ptr (.own (h.length + 1) 0)]) (fI l f)
    (by simp [rd,x4]) (hv.sub sX) hl hn rfl fun d hd H sH => bA.vc (P := Tryz.prog) (first := []) (capt := [.ptr (.own (h.length + 3) 0),.ptr (.own (h.length + 1) 0)]) (aDM d f (by
     have := vP hl d hd; unfold Bd at *; omega) hfb (by simp [rdn,sH.2 _ _ x3,pC]) (by simp [rd,sH.2 _ _ x1]) (hv.sub (sX.trans sH)) hl hn)
   rw [eX] at hfirst
   refine aO hfirst.v ?_
   rw [show (eT l).find? (fI l f) = eM l f from rfl]
   cases hff : eM l f with
   | some d =>
    rw [hff] at hH
    simp only [go_sem,jR]
    exact ⟨aL.refl.app,by rw [hH]; rfl⟩
   | none =>
    rw [hff] at hH
    simp only [go_sem,jR]
    refine ⟨(by unfold I64; omega),gS 3 hb (by simp [dK,dL,eI,eJ,fR,eF,AV.bdds,AV.bdd,Pl.bdd,cP]; exact AV.bdd_mono (by omega) _ vb) (by simp [dK,dL,eI,eJ,fR,eF,AV.bdds,AV.bdd,Pl.bdd,cP]; exact pc_bdd _ _) ?_⟩
    exact ih (i + 1) ⟨by omega,hH⟩ (by omega)
 · have e1 : ¬ (i : Int) < 4 := by omega
   obtain rfl : i = 4 := by omega
   simp only [go_sem,e1]
   rw [show (cC w).drop 4 = [] from rfl] at hH
   rw [hH]
   exact ⟨aL.refl.app,rfl⟩
theorem yK (a b lo hi : Int) : bA Tryz.prog w0 115 [.agg [.int .i64 a,.int .i64 b],.int .i64 lo,.int .i64 hi] h (.bool (decide (lo ≤ a) && (decide (a ≤ b) && decide (b ≤ hi)))) h := by
 refine aP aX qP vB vA (qE rfl) (by simp [AV.bdd,AV.bdds]) fun hb ha => bB ?_
 simp only [go_sem,mf115]
 exact ⟨fun x => ⟨fun y => by simp [x,y],fun y => by simp [x,y]⟩,fun x => by simp [x]⟩
theorem zC (r : aI) : bA Tryz.prog w0 122 [.agg r.c] h (.bool (aV r)) h := by
 refine aP aX qN uX uW (qE rfl) (by simp [AV.bdd,AV.bdds]) fun hb ha => bB ?_
 simp only [go_sem,mf122]
 refine aO (in_c r.x (-100) 100).v ?_
 cases e1 : inB r.x (-100) 100 with
 | false => simp only [go_sem]; simp [aV,e1]
 | true =>
 simp only [go_sem]
 refine aO (in_c r.y (-100) 100).v ?_
 cases e2 : inB r.y (-100) 100 with
 | false => simp only [go_sem]; simp [aV,e2]
 | true =>
 by_cases q1 : r.x = 0
 · by_cases q2 : r.y = 0
   · simp only [go_sem,q1,q2]
     simp [aV,q1,q2]
   · simp only [go_sem,q1,q2]
     refine aO (in_c r.s 0 1000000).v ?_
     simp only [go_sem]
     rw [q1] at e1
     simp [aV,e1,e2,q1,q2]
 · simp only [go_sem,q1]
   refine aO (in_c r.s 0 1000000).v ?_
   simp only [go_sem]
   simp [aV,e1,e2,q1]
def dS (l : List aI) (w : dI) : Int := if 8 < l.length then 3 else cond (l.all aV && eZ w) 0 2
theorem aBI (w : dI) {v : AV} {l : List aI} (hv : Sl w0 h 3 v (l.map aI.c)) : bA Tryz.prog w0 79 [v,.agg w.c] h (.int .i64 (dS l w)) h := by
 refine aP aX uC zW zV (qE rfl) (by simp [AV.bdd,AV.bdds]) fun hb ha => bB ?_
 have hlen : mI v = some (.int .i64 l.length) := by have := hv.use.1; rwa [List.length_map] at this
 by_cases hL : 8 < l.length
 · have e1 : (l.length : Int) > 8 := by omega
   simp only [go_sem,mf79,hlen,e1]
   rw [dS,if_pos hL]
 have e1 : ¬ (l.length : Int) > 8 := by omega
 simp only [go_sem,mf79,hlen,e1]
 have hall := mM (w0 := w0) (h := h ++ [some (.row w.c)]) (l.map aI.c) v (.fn (.func 122) [] []) (fun j => aV (l.getD j ⟨0,0,0⟩)) hv.app (fun c hc => by
  obtain ⟨z,_,rfl⟩ := List.mem_map.1 hc; rfl) (by rw [List.length_map]; omega) (fun j c hc _ L => by
  rw [List.getElem?_map] at hc
  obtain ⟨z,hz,rfl⟩ := qD.1 hc
  rw [aAU hz]
  exact bA.vc (P := Tryz.prog) (first := []) (capt := []) (zC z))
 rw [List.length_map,lF] at hall
 refine aO hall.v ?_
 rw [dS,if_neg hL]
 cases c1 : l.all aV with
 | false => simp only [go_sem]; simp
 | true =>
 simp only [go_sem]
 have s1 : ∀ {H : aA},bA Tryz.prog w0 115 [.agg [.int .i64 w.xl,.int .i64 w.xh],.int .i64 (-1000000),.int .i64 1000000] H (.bool (dT w.xl w.xh)) H := yK ..
 have s2 : ∀ {H : aA},bA Tryz.prog w0 115 [.agg [.int .i64 w.yl,.int .i64 w.yh],.int .i64 (-1000000),.int .i64 1000000] H (.bool (dT w.yl w.yh)) H := yK ..
 refine aO s1.v ?_
 simp only [eZ,Bool.true_and]
 cases c2 : dT w.xl w.xh with
 | false => simp only [go_sem]; simp
 | true =>
 simp only [go_sem]
 refine aO s2.v ?_
 cases c3 : dT w.yl w.yh with
 | false => simp only [go_sem]; simp
 | true => simp only [go_sem]; simp
def nI (l : List aI) (w : dI) : AV := if dS l w = 0 then .tup (holdV (jE l w) ++ [.int .i64 0]) else .tup [.bool false,.agg [.int .i64 0,.int .i64 0,.int .i64 0,.int .i64 0],.int .i64 (dS l w)]
theorem Hold_c (w : dI) {v : AV} {l : List aI} (hv : Sl w0 h 3 v (l.map aI.c)) : bA Tryz.prog w0 28 [v,.agg w.c] h (nI l w) h := by
 have hbv : ∀ N,(nI l w).bdd N := fun N => by
  unfold nI holdV; split
  · split <;> simp [AV.bdd,AV.bdds]
  · simp [AV.bdd,AV.bdds]
 refine eK (hbv _) (bR aX uD zY zX (qE rfl) fun hb ha => bB ?_)
 simp only [go_sem,mf28]
 refine aO (aBI w hv.app).v ?_
 by_cases e : dS l w = 0
 · have hR : l.length ≤ 8 ∧ l.all aV = true ∧ eZ w = true := by
    unfold dS at e
    split at e
    · omega
    · cases h2 : l.all aV && eZ w with
      | false => rw [h2] at e; simp at e
      | true =>
       rw [Bool.and_eq_true] at h2
       exact ⟨by omega,h2⟩
   simp only [go_sem,e]
   refine aO (hold_c w hv.app hR.2.1 (by omega) hR.2.2).v ?_
   rw [nI,if_pos e]
   cases jE l w with
   | none =>
    simp only [go_sem,holdV,List.cons_append,List.nil_append]
    exact aL.refl.app
   | some x =>
    simp only [go_sem,holdV,List.cons_append,List.nil_append]
    exact aL.refl.app
 · simp only [go_sem,e]
   rw [nI,if_neg e]
   exact ⟨aL.refl.app,rfl⟩
theorem fY {l : List aI} {j : Nat} (hj : j < l.length) : (l.map aI.c)[j]? = some l[j].c := by rw [List.getElem?_map,qA hj]; rfl
theorem yY {v : AV} {l : List aI} (hv : Sl w0 h 3 v (l.map aI.c)) (hn : l.length < 1000000) : bA Tryz.prog w0 38 [v] h (.bool (l.all aV)) h := by
 refine aP aX aCj mf38_b mf38_g (qE rfl) (by simp [AV.bdd,AV.bdds]) fun hb ha => bB ?_
 obtain ⟨hlen,q,hix,hrow,_⟩ := hv.use
 rw [List.length_map] at hlen hix
 have vb := hv.bdd (Nat.le_refl _)
 simp only [go_sem,mf38]
 refine lM (fun j => [(0,v),(3,.int .i64 j)]) (fun j => aV (l.getD j ⟨0,0,0⟩) = true) l.length rfl (fun j hj hall ih => ?_) (fun hall => ?_)
 · refine bH aX vW [0,3] L38_0.eq_1 ?_
   have e1 : (j : Int) < l.length := by omega
   have e2 := hix j hj
   have e3 : ∀ L,rdn w0 (h ++ L) (q.add (j * 3)) 3 = some l[j].c := fun L => eG (hrow j _ (fY hj))
   have e3' := hrow j _ (fY hj)
   obtain ⟨r,hr⟩ : ∃ r,r = l[j] := ⟨_,rfl⟩
   rw [oF hj,← hr] at ih
   have no : aV r = false → l.all aV = false := fun x => by
    rw [List.all_eq_false]; exact ⟨_,qG hj,by rw [← hr,x]; simp⟩
   simp only [go_sem,hlen,e1,e2,e3,e3',← hr]
   refine aO (tT r.x (-100) 100).v ?_
   cases c1 : inB r.x (-100) 100 with
   | false => simp only [go_sem]; rw [no (by simp [aV,c1])]
   | true =>
   simp only [go_sem]
   refine aO (tT r.y (-100) 100).v ?_
   cases c2 : inB r.y (-100) 100 with
   | false => simp only [go_sem]; rw [no (by simp [aV,c2])]
   | true =>
   by_cases q1 : r.x = 0
   · by_cases q2 : r.y = 0
     · simp only [go_sem,q1,q2]
       rw [no (by simp [aV,q1,q2])]
     · simp only [go_sem,q1,q2]
       refine aO (tT r.s 0 1000000).v ?_
       cases c3 : inB r.s 0 1000000 with
       | false => simp only [go_sem]; rw [no (by simp [aV,c3])]
       | true =>
       simp only [go_sem]
       refine ⟨(by unfold I64; omega),gS 0 hb (by simp [HBs]) (by simp [dK,dL,eI,eJ,fR,eF,AV.bdds,AV.bdd,Pl.bdd,cP]; exact vb) ?_⟩
       simpa using ih (by rw [q1] at c1; simp [aV,q1,c1,c2,c3,q2])
   · simp only [go_sem,q1]
     refine aO (tT r.s 0 1000000).v ?_
     cases c3 : inB r.s 0 1000000 with
     | false => simp only [go_sem]; rw [no (by simp [aV,c3])]
     | true =>
     simp only [go_sem]
     refine ⟨(by unfold I64; omega),gS 0 hb (by simp [HBs]) (by simp [dK,dL,eI,eJ,fR,eF,AV.bdds,AV.bdd,Pl.bdd,cP]; exact vb) ?_⟩
     simpa using ih (by simp [aV,q1,c1,c2,c3])
 · refine bH aX vW [0,3] L38_0.eq_1 ?_
   have e1 : ¬ (l.length : Int) < l.length := by omega
   have : l.all aV = true := by rw [← lF ⟨0,0,0⟩,List.all_eq_true]; exact fun j hj => hall j (List.mem_range.1 hj)
   simp only [go_sem,hlen,e1]
   rw [this]
theorem pO (a b : Int) : bA Tryz.prog w0 120 [.agg [.int .i64 a,.int .i64 b]] h (.bool (dT a b)) h := by
 refine aP aX aAw aDf aDe (qE rfl) (by simp [AV.bdd,AV.bdds]) fun hb ha => bB ?_
 simp only [go_sem,mf120]
 exact ⟨fun x => ⟨fun y => by simp [dT,x,y],fun y => by simp [dT,x,y]⟩,fun x => by simp [dT,x]⟩
theorem aBF (w : dI) : bA Tryz.prog w0 78 [.agg w.c] h (.bool (eZ w)) h := by
 refine aP aX aB6 mf78_b mf78_g (qE rfl) (by simp [AV.bdd,AV.bdds]) fun hb ha => bB ?_
 simp only [go_sem,mf78]
 refine aO (pO w.xl w.xh).v ?_
 cases c1 : dT w.xl w.xh with
 | false => simp only [go_sem]; simp [eZ,c1]
 | true =>
 simp only [go_sem]
 refine aO (pO w.yl w.yh).v ?_
 simp only [go_sem]
 simp [eZ,c1]
theorem aBG (d : Int × Int) {v : AV} {l : List aI} {D : Int} (hd : Bd D d) (hD0 : 0 ≤ D) (hD : D ≤ 10000) (hv : Sl w0 h 3 v (l.map aI.c)) (hl : l.all aV = true) (hn : l.length ≤ 20) :
 bA Tryz.prog w0 81 [v,.int .i64 d.1,.int .i64 d.2] h (.int .i64 (bC l d)) h := by
 refine aP aX aB5 mf81_b mf81_g (qE rfl) (by simp [AV.bdd,AV.bdds]) fun hb ha => bB ?_
 obtain ⟨hlen,q,hix,hrow,_⟩ := hv.use
 rw [List.length_map] at hlen hix
 have vb := hv.bdd (Nat.le_refl _)
 simp only [go_sem,mf81]
 have key : ∀ j : Nat,0 ≤ bC (l.take j) d ∧ bC (l.take j) d ≤ 20 * (1000000 * (D * 200)) := fun j => by
  have := nX hd.1 hd.2 (l.take j) (by rw [List.all_eq_true] at hl ⊢; exact fun x hx => hl x (List.mem_of_mem_take hx))
  have h2 : ((l.take j).length : Int) * (1000000 * (D * 200)) ≤ 20 * (1000000 * (D * 200)) := Int.mul_le_mul_of_nonneg_right (by rw [List.length_take]; omega) (by omega)
  omega
 refine lM (fun j => [(0,v),(1,.int .i64 d.1),(2,.int .i64 d.2),(7,.int .i64 (bC (l.take j) d)),(8,.int .i64 j)]) (fun _ => True) l.length (by simp [bC]) (fun j hj hall ih => ?_) (fun hall => ?_)
 · refine bH aX vV [0,1,2,7,8] L81_0.eq_1 ?_
   have e1 : (j : Int) < l.length := by omega
   have e2 := hix j hj
   have r0 := hrow j _ (fY hj)
   have e3 : ∀ o x,l[j].c[o]? = some x → ∀ L,rd w0 (h ++ L) ((q.add (j * 3)).add o) = some x := fun o x hx L => fL (lE r0 (o := o) hx)
   have f0 := e3 0 _ rfl
   have f1 := e3 1 _ rfl
   have f2 := e3 2 _ rfl
   have f0' := f0 []
   have f1' := f1 []
   have f2' := f2 []
   rw [List.append_nil] at f0' f1' f2'
   have hR := List.all_eq_true.1 hl _ (qG hj)
   have hb1 := jN hR hd.1 hd.2
   have hb2 := pN hR hd.1 hd.2
   have k1 := key j
   simp only [bF,bG] at hb1
   simp only [go_sem,hlen,e1,e2,f0,f1,f2,f0',f1',f2']
   refine ⟨(by unfold I64; omega),(by unfold I64; omega),(by unfold I64; omega),(by unfold I64; omega),(by unfold I64; omega),(by unfold I64; omega),?_⟩
   have := ih trivial
   rw [lG hj] at this
   exact this
 · refine bH aX vV [0,1,2,7,8] L81_0.eq_1 ?_
   have e1 : ¬ (l.length : Int) < l.length := by omega
   simp only [go_sem,hlen,e1]
   simp
theorem pP (f d : Int × Int) {v : AV} {l : List aI} (hd : Bd 10000 d) (hf : Bd 1000000 f) (hv : Sl w0 h 3 v (l.map aI.c)) (hl : l.all aV = true) (hn : l.length ≤ 20) :
 bA Tryz.prog w0 29 [v,.agg [.int .i64 f.1,.int .i64 f.2,.int .i64 d.1,.int .i64 d.2]] h (.bool (fI l f d)) h := by
 refine aP aX aCn mf29_b mf29_g (qE rfl) (by simp [AV.bdd,AV.bdds]) fun hb ha => bB ?_
 have h1 := cO hd.1.1 hd.1.2 hf.1.1 hf.1.2
 have h2 := cO hd.2.1 hd.2.2 hf.2.1 hf.2.2
 simp only [go_sem,mf29]
 refine vO aX [0,1,2,3,4,5,6,7,8,9,10,11,12,13,14,15,16,17,18,19] [o_ 5 (.addr (.t 3) 2),o_ 6 (l_ 5),o_ 7 (.addr (.t 3) 0),o_ 8 (l_ 7),o_ 9 (.bin .mul (.t 6) (.t 8)),o_ 10 (.addr (.t 3) 3),o_ 11 (l_ 10),o_ 12 (.addr (.t 3) 1),o_ 13 (l_ 12),o_ 14 (.bin .mul (.t 11) (.t 13)),o_ 15 (.bin .add (.t 9) (.t 14)),o_ 16 (.un .neg (.t 15)),o_ 17 (m_ 0),o_ 18 (.addr (.t 3) 2),o_ 19 (l_ 18),o_ 20 (.addr (.t 3) 3),o_ 21 (l_ 20),.call (some 22) none (f_ 81) [(.t 17),(.t 19),(.t 21)]] [([(1,o_ 6 (l_ 5)),(3,o_ 8 (l_ 7)),(6,o_ 11 (l_ 10)),(8,o_ 13 (l_ 12))],[o_ 23 (.bin .gtr (.t 16) (.t 22)),o_ 4 (m_ 23)])] rfl rfl (by kernel_rfl) ?_
 simp only [go_sem]
 refine ⟨(by unfold I64; omega),(by unfold I64; omega),(by unfold I64; omega),(by unfold I64; omega),?_⟩
 refine aO (aBG d hd (by omega) (by omega) hv.app hl hn).v ?_
 simp only [go_sem]
 simp only [fI,Int.zero_sub,bF]
 rfl
theorem aAI (w : dI) {v : AV} {l : List aI} (hv : Sl w0 h 3 v (l.map aI.c)) : bA Tryz.prog w0 26 [v,.agg w.c] h (.int .i64 (dS l w)) h := by
 refine aP aX aCp mf26_b mf26_g (qE rfl) (by simp [AV.bdd,AV.bdds]) fun hb ha => bB ?_
 have hlen : mI v = some (.int .i64 l.length) := by have := hv.use.1; rwa [List.length_map] at this
 by_cases hL : 8 < l.length
 · have e1 : (l.length : Int) > 8 := by omega
   simp only [go_sem,mf26,hlen,e1]
   rw [dS,if_pos hL]
 have e1 : ¬ (l.length : Int) > 8 := by omega
 simp only [go_sem,mf26,hlen,e1]
 refine aO (yY hv.app (by omega)).v ?_
 rw [dS,if_neg hL]
 cases c1 : l.all aV with
 | false => simp only [go_sem]; simp
 | true =>
 simp only [go_sem]
 refine aO (aBF w).v ?_
 cases c2 : eZ w with
 | false => simp only [go_sem]; simp
 | true => simp only [go_sem]; simp
theorem zL (a b p : Int) (ha : -1000000000 ≤ a ∧ a ≤ 1000000000) (hb : -1000000000 ≤ b ∧ b ≤ 1000000000) (hp : 0 ≤ p ∧ p ≤ 100) : bA Tryz.prog w0 30 [.agg [.int .i64 a,.int .i64 b],.int .i64 p] h (.int .i64 (iB a b p)) h := by
 refine aP aX aCm mf30_b mf30_g (qE rfl) (by simp [AV.bdd,AV.bdds]) fun hb ha => bB ?_
 have w1 := tO (n := b - a) (by unfold I64; omega)
 have m1 := cO (x := b - a) (y := p) (m := 2000000000) (n := 100) (by omega) (by omega) (by omega) (by omega)
 have m2 : -(2000000000 * 100) ≤ ((b - a) * p).tdiv 100 ∧ ((b - a) * p).tdiv 100 ≤ 2000000000 * 100 := by
  obtain ⟨n,hn⟩ : ∃ n,n = (b - a) * p := ⟨_,rfl⟩
  rw [← hn] at m1 ⊢
  rcases Int.le_total 0 n with h0 | h0
  · rw [Int.tdiv_eq_ediv_of_nonneg h0]; omega
  · have := Int.neg_tdiv (a := n) (b := 100)
    have h1 : 0 ≤ -n := by omega
    rw [Int.tdiv_eq_ediv_of_nonneg h1] at this
    omega
 simp only [go_sem,mf30,w1]
 exact ⟨(by unfold I64; omega),(by unfold I64; omega),(by unfold I64; omega),rfl⟩
theorem eP : ∀ {l : List aI} {t : List Int},cR l t = true ↔ t.length = l.length ∧ ∀ (i : Nat) r x,l[i]? = some r → t[i]? = some x → 0 ≤ x ∧ x ≤ r.s
 | [],[] => by simp [cR]
 | [],x :: t => by simp [cR]
 | r :: l,[] => by simp [cR]
 | r :: l,x :: t => by
  have ih := eP (l := l) (t := t)
  simp only [cR,Bool.and_eq_true,ih,inB,decide_eq_true_eq,List.length_cons]
  constructor
  · rintro ⟨h1,h2,h3⟩
    refine ⟨by omega,fun i r' x' a b => ?_⟩
    cases i with
    | zero => simp at a b; subst a; subst b; exact h1
    | succ i => exact h3 i r' x' (by simpa using a) (by simpa using b)
  · rintro ⟨h1,h2⟩
    exact ⟨h2 0 r x rfl rfl,by omega,fun i r' x' a b => h2 (i + 1) r' x' (by simpa using a) (by simpa using b)⟩
theorem yG {v tv : AV} {l : List aI} {t : List Int} (hv : Sl w0 h 3 v (l.map aI.c)) (ht : SlI w0 h tv t) (hn : l.length < 1000000) (htn : t.length ≤ 9223372036854775807) : bA Tryz.prog w0 27 [v,tv] h (.bool (cR l t)) h := by
 refine aP aX aCo mf27_b mf27_g (qE rfl) (by simp [AV.bdd,AV.bdds]) fun hb ha => bB ?_
 obtain ⟨hlen,q,hix,hrow,_⟩ := hv.use
 rw [List.length_map] at hlen hix
 have hlt := (SlI.use ht).1
 simp only [go_sem,mf27]
 refine lM (fun j => [(0,v),(1,tv),(5,.int .i64 j)]) (fun j => ∀ r x,l[j]? = some r → t[j]? = some x → 0 ≤ x ∧ x ≤ r.s) (min t.length l.length) rfl (fun j hj hall ih => ?_) (fun hall => ?_)
 · refine bH aX vY [0,1,5] L27_0.eq_1 ?_
   have hjl : j < l.length := by omega
   have hjt : j < t.length := by omega
   have e1 : (j : Int) < l.length := by omega
   have e1' : (j : Int) < t.length := by omega
   have e2 := hix j hjl
   have r0 := hrow j _ (fY hjl)
   have f2 : ∀ L,rd w0 (h ++ L) ((q.add (j * 3)).add 2) = some (.int .i64 l[j].s) := fun L => fL (lE r0 (o := 2) rfl)
   have f2' := f2 []
   rw [List.append_nil] at f2'
   obtain ⟨pt,i1,r1,r1'⟩ := ht.at_ hjt
   have no : ¬ (0 ≤ t[j] ∧ t[j] ≤ l[j].s) → cR l t = false := fun x => by
    cases e : cR l t
    · rfl
    · exact absurd ((eP.1 e).2 j _ _ (qA hjl) (qA hjt)) x
   simp only [go_sem,hlen,hlt,e1,e1',e2,f2,f2',i1,r1,r1']
   refine ⟨fun c1 => ⟨fun c2 => ?_,fun c2 => ⟨(by unfold I64; omega),ih fun r x hr hx => ?_⟩⟩,fun c1 => ?_⟩
   · rw [no (by omega)]
   · rw [qA hjl] at hr
     rw [qA hjt] at hx
     cases hr; cases hx; omega
   · rw [no (by omega)]
 · refine bH aX vY [0,1,5] L27_0.eq_1 ?_
   have key : (t.length = l.length) → cR l t = true := fun e => eP.2 ⟨e,fun i r x a b => hall i (by have := aS a; omega) r x a b⟩
   have key2 : ¬ (t.length = l.length) → cR l t = false := fun e => by
    cases e2 : cR l t
    · rfl
    · exact absurd (eP.1 e2).1 e
   by_cases hc : t.length < l.length
   · have e1 : ¬ ((min t.length l.length : Nat) : Int) < t.length := by omega
     have e2 : ¬ (t.length : Int) = l.length := by omega
     simp only [go_sem,hlen,hlt,e1,e2]
     rw [key2 (by omega)]; simp; omega
   · by_cases hc2 : l.length < t.length
     · have e1 : ((min t.length l.length : Nat) : Int) < t.length := by omega
       have e3 : ¬ ((min t.length l.length : Nat) : Int) < l.length := by omega
       have e2 : ¬ (t.length : Int) = l.length := by omega
       simp only [go_sem,hlen,hlt,e1,e2,e3]
       rw [key2 (by omega)]; simp; omega
     · have e1 : ¬ ((min t.length l.length : Nat) : Int) < t.length := by omega
       have e2 : (t.length : Int) = l.length := by omega
       simp only [go_sem,hlen,hlt,e1]
       rw [key (by omega)]; simp; omega
theorem fW : ∀ {l : List aI} {t : List Int} {j : Nat} {r : aI} {x : Int},l[j]? = some r → t[j]? = some x → bT (l.take (j + 1)) (t.take (j + 1)) = ((bT (l.take j) (t.take j)).1 + x * r.x,(bT (l.take j) (t.take j)).2 + x * r.y)
 | [],_,_,_,_,h,_ => by simp at h
 | _ :: _,[],_,_,_,_,h => by simp at h
 | r :: l,x :: t,0,r',x',h1,h2 => by
  simp at h1 h2; subst h1; subst h2
  simp [bT]
 | r :: l,x :: t,j + 1,r',x',h1,h2 => by
  have ih := fW (l := l) (t := t) (j := j) (r := r') (x := x') (by simpa using h1) (by simpa using h2)
  simp only [List.take_succ_cons,bT,ih]
  exact Prod.ext (by simp only; omega) (by simp only; omega)
theorem yF {l : List aI} (hl : l.all aV = true) {t : List Int} (ht : ∀ (i : Nat) r x,l[i]? = some r → t[i]? = some x → 0 ≤ x ∧ x ≤ r.s) (j : Nat) (hj : j ≤ l.length) (hjt : j ≤ t.length) :
 (-(100000000 * j) ≤ (bT (l.take j) (t.take j)).1 ∧ (bT (l.take j) (t.take j)).1 ≤ 100000000 * j) ∧ -(100000000 * j) ≤ (bT (l.take j) (t.take j)).2 ∧ (bT (l.take j) (t.take j)).2 ≤ 100000000 * j := by
 induction j with
 | zero => simp [bT]
 | succ j ih =>
  have ih := ih (by omega) (by omega)
  have h1 : l[j]? = some l[j] := qA (by omega)
  have h2 : t[j]? = some t[j] := qA (by omega)
  have hx := ht j _ _ h1 h2
  have hR := List.all_eq_true.1 hl _ (qG (show j < l.length by omega))
  simp only [aV,inB,Bool.and_eq_true,decide_eq_true_eq] at hR
  have m1 := cO (x := t[j]) (y := l[j].x) (m := 1000000) (n := 100) (by omega) (by omega) (by omega) (by omega)
  have m2 := cO (x := t[j]) (y := l[j].y) (m := 1000000) (n := 100) (by omega) (by omega) (by omega) (by omega)
  rw [fW h1 h2]
  simp only; omega
theorem aBv {v tv : AV} {l : List aI} {t : List Int} (hv : Sl w0 h 3 v (l.map aI.c)) (ht : SlI w0 h tv t) (hn : l.length ≤ 20) (hl : l.all aV = true) (hT : cR l t = true) :
 bA Tryz.prog w0 31 [v,tv] h (.tup [.int .i64 (bT l t).1,.int .i64 (bT l t).2]) h := by
 refine aP aX aCl mf31_b mf31_g (qE rfl) (by simp [AV.bdd,AV.bdds]) fun hb ha => bB ?_
 obtain ⟨hlen,q,hix,hrow,_⟩ := hv.use
 rw [List.length_map] at hlen hix
 obtain ⟨hTl,hTx⟩ := eP.1 hT
 simp only [go_sem,mf31]
 refine lM (fun j => [(0,v),(1,tv),(6,.int .i64 (bT (l.take j) (t.take j)).1),(7,.int .i64 (bT (l.take j) (t.take j)).2),(8,.int .i64 j)]) (fun _ => True) l.length (by simp [bT]) (fun j hj hall ih => ?_) (fun hall => ?_)
 · refine bH aX vX [0,1,6,7,8] L31_0.eq_1 ?_
   have e1 : (j : Int) < l.length := by omega
   have e2 := hix j hj
   have r0 := hrow j _ (fY hj)
   have f0 : ∀ L,rd w0 (h ++ L) ((q.add (j * 3)).add 0) = some (.int .i64 l[j].x) := fun L => fL (lE r0 (o := 0) rfl)
   have f1 : ∀ L,rd w0 (h ++ L) ((q.add (j * 3)).add 1) = some (.int .i64 l[j].y) := fun L => fL (lE r0 (o := 1) rfl)
   have f0' := f0 []; have f1' := f1 []
   rw [List.append_nil] at f0' f1'
   obtain ⟨pt,i1,r1,r1'⟩ := ht.at_ (j := j) (by omega)
   have hjt : j < t.length := by omega
   have h1 : l[j]? = some l[j] := qA hj
   have h2 : t[j]? = some t[j] := qA hjt
   have hx := hTx j _ _ h1 h2
   have hR := List.all_eq_true.1 hl _ (qG hj)
   simp only [aV,inB,Bool.and_eq_true,decide_eq_true_eq] at hR
   have m1 := cO (x := t[j]) (y := l[j].x) (m := 1000000) (n := 100) (by omega) (by omega) (by omega) (by omega)
   have m2 := cO (x := t[j]) (y := l[j].y) (m := 1000000) (n := 100) (by omega) (by omega) (by omega) (by omega)
   have b1 := yF hl hTx j (by omega) (by omega)
   have ih := ih trivial
   rw [fW h1 h2] at ih
   simp only [go_sem,hlen,e1,e2,f0,f1,f0',f1',i1,r1,r1']
   exact ⟨(by unfold I64; omega),(by unfold I64; omega),(by unfold I64; omega),(by unfold I64; omega),(by unfold I64; omega),ih⟩
 · refine bH aX vX [0,1,6,7,8] L31_0.eq_1 ?_
   have e1 : ¬ (l.length : Int) < l.length := by omega
   simp only [go_sem,hlen,e1]
   rw [List.take_length,show t.take l.length = t by rw [← hTl,List.take_length]]
end Go.Proofs.Ab
namespace Go.Proofs.Ab
open Go Go.Proofs
variable {w : World} {h : aA} {cs : List Value}
theorem aBJ (g : Gd w oD cs) : ∃ r : aI,cs.map inj = r.c ∧ I64 r.s := by
 obtain ⟨a,b,c,e,_,_,h3⟩ := aDL g
 exact ⟨⟨a,b,c⟩,e,h3⟩
theorem aBu (g : Gd w sF cs) : ∃ r : dI,cs.map inj = r.c ∧ True := by
 obtain ⟨a,b,c,d,e,_⟩ := aDK g
 exact ⟨⟨a,b,c,d⟩,e,trivial⟩
theorem zA {v : Value} (g : Gd w (.sl oD .nil) [v]) : ∃ l : List aI,Sl w h 3 (inj v) (l.map aI.c) ∧ l.length ≤ 9223372036854775807 := by
 obtain ⟨_,_,e,h,rfl⟩ := g
 cases e
 exact pJ aI.c rfl h fun _ g => by
  obtain ⟨r,e,_⟩ := aBJ g
  exact ⟨r,e⟩
end Go.Proofs.Ab
namespace Go.Proofs.Ab
open Go Go.Proofs
variable {w0 : World} {h : aA}
attribute [local irreducible] ACall aZ cX bA eD rvC lp rg dr ex un rv
theorem zB {l : List aI} {w : dI} (e : dS l w = 0) : l.length ≤ 8 ∧ l.all aV = true ∧ eZ w = true := by
 unfold dS at e
 split at e
 · omega
 · cases h2 : l.all aV && eZ w with
   | false => rw [h2] at e; simp at e
   | true =>
    rw [Bool.and_eq_true] at h2
    exact ⟨by omega,h2⟩
theorem eqa4 (a b c d a' b' c' d' : Int) : eqaV [true,true,true,true] false (.agg [.int .i64 a,.int .i64 b,.int .i64 c,.int .i64 d]) (.agg [.int .i64 a',.int .i64 b',.int .i64 c',.int .i64 d']) = some (.bool (decide (a = a') && (decide (b = b') && (decide (c = c') && decide (d = d'))))) := by
 have hc : ∀ x y : Int,ceq true (.int .i64 x) (.int .i64 y) = some (decide (x = y)) := fun x y => by
  by_cases e : x = y <;> simp [ceq,e]
 simp only [eqaV,cE,hc]
 by_cases e1 : a = a' <;> by_cases e2 : b = b' <;> by_cases e3 : c = c' <;> by_cases e4 : d = d' <;> simp [e1,e2,e3,e4]
set_option maxRecDepth 20000 in
theorem rJ {v tv : AV} {l : List aI} {t : List Int} (w : dI) (px py x y : Int) (hv : Sl w0 h 3 v (l.map aI.c)) (ht : SlI w0 h tv t) (hn : l.length ≤ 9223372036854775807) (htn : t.length ≤ 9223372036854775807) :
 bA Tryz.prog w0 5 [v,.agg w.c,.int .i64 px,.int .i64 py,.int .i64 x,.int .i64 y,tv] h (.bool true) h := by
 refine eK trivial (bR aX mf5_ok mf5_b mf5_g (qE rfl) fun hb ha => bB ?_)
 simp only [go_sem,mf5]
 refine aO (aAI w hv.app).v ?_
 by_cases e : dS l w = 0
 · obtain ⟨hl8,hl,hw⟩ := zB e
   have hw' := hw
   simp only [eZ,dT,Bool.and_eq_true,decide_eq_true_eq] at hw'
   obtain ⟨⟨hw0,hw1,hw3⟩,hw4,hw2,hw5⟩ := hw'
   simp only [go_sem,e]
   repeat' (refine And.intro (fun _ => ?_) (fun _ => ?_))
   all_goals first | (refine aO jC.v ?_; simp only [go_sem]; exact aL.refl.app) | skip
   rename_i p1 p2 p3 p4 p5 p6 p7 p8
   refine aO (yG hv.app (Sl.app ht) (by omega) htn).v ?_
   cases hT : cR l t with
   | false =>
    simp only [go_sem]
    refine aO jC.v ?_
    simp only [go_sem]
    exact aL.refl.app
   | true =>
   simp only [go_sem]
   refine aO (Hold_c w hv.app).v ?_
   rw [nI,if_pos e]
   cases hH : jE l w with
   | none =>
    simp only [go_sem,holdV,List.cons_append,List.nil_append]
    refine vO aX [0,1,2,3,4,5,6,7,9,10,11,13,14,8,12,15,16,17,18,19,20,21,22] [o_ 73 (.load (.t 16) (some 4)),o_ 74 (.build [(.int .i64 0),(.int .i64 0),(.int .i64 0),(.int .i64 0)] []),o_ 75 (.eqag [true,true,true,true] false (.t 73) (.t 74)),o_ 76 (m_ 75),q_ 77 76 true (m_ 0),q_ 78 76 true (.addr (.t 8) 0),q_ 79 76 true (.load (.t 78) (some 2)),q_ 80 76 true (m_ 2),q_ 82 76 true (.addr (.t 8) 2),q_ 83 76 true (.load (.t 82) (some 2)),q_ 84 76 true (m_ 3),q_ 86 76 true (m_ 4),q_ 87 76 true (m_ 5),.call (some 81) (some (76,true)) (f_ 30) [(.t 79),(.t 80)]] [([(9,q_ 83 76 true (.load (.t 82) (some 2)))],[.call (some 85) (some (76,true)) (f_ 30) [(.t 83),(.t 84)],q_ 88 76 true (.build [(.int .i64 0),(.int .i64 0),(.int .i64 0),(.int .i64 0)] [(0,1,(.t 81)),(1,1,(.t 85)),(2,1,(.t 86)),(3,1,(.t 87))]),.call (some 89) (some (76,true)) (f_ 29) [(.t 77),(.t 88)],q_ 90 76 true (.un .not (.t 89)),o_ 91 (.pick (.t 76) (.t 90) (.k (.bool false))),o_ 92 (m_ 91),.call (some 93) (some (92,true)) (f_ 16) [],o_ 94 (.pick (.t 92) (.t 93) (.k (.bool false))),o_ 14 (m_ 94)])] rfl rfl (by kernel_rfl) ?_
    simp only [go_sem,eqa4,decide_true,Bool.and_self]
    have hall := fun d => zI hl (f := (iB w.xl w.xh px,iB w.yl w.yh py)) (fun d' hd' => box_le (m := bC l d') (fun c hc => sL.1 hH c hc d' hd') (gR hw1 (by omega) (by omega)).1 (gR hw1 (by omega) (by omega)).2 (gR hw2 (by omega) (by omega)).1 (gR hw2 (by omega) (by omega)).2) d
    have hf : fI l (iB w.xl w.xh px,iB w.yl w.yh py) (x,y) = false := by
     have := hall (x,y)
     simp only [fI,decide_eq_false_iff_not]; omega
    have b1 := gR hw1 (p := px) (by omega) (by omega)
    have b2 := gR hw2 (p := py) (by omega) (by omega)
    refine aO (zL w.xl w.xh px (by omega) (by omega) (by omega)).v ?_
    simp only [go_sem]
    refine aO (zL w.yl w.yh py (by omega) (by omega) (by omega)).v ?_
    simp only [go_sem]
    refine aO (pP (iB w.xl w.xh px,iB w.yl w.yh py) (x,y) ⟨⟨by simp only; omega,by simp only; omega⟩,by simp only; omega,by simp only; omega⟩ ⟨⟨by simp only; omega,by simp only; omega⟩,by simp only; omega,by simp only; omega⟩ hv.app hl (by omega)).v ?_
    rw [hf]
    simp only [go_sem]
    refine aO jC.v ?_
    simp only [go_sem]
    exact aL.refl.app
   | some fd =>
    obtain ⟨⟨f1,f2⟩,d⟩ := fd
    obtain ⟨hf,hd,hlt⟩ := sK hH
    have hdb := vP hl d hd
    have hfb := lW hw _ hf
    have g1 : ¬ d.1 < -10000 := by have := hdb.1; omega
    have g2 : ¬ d.1 > 10000 := by have := hdb.1; omega
    have g3 : ¬ d.2 < -10000 := by have := hdb.2; omega
    have g4 : ¬ d.2 > 10000 := by have := hdb.2; omega
    have hA : ((f1 != w.xl) && (f1 != w.xh)) = false ∧ ((f2 != w.yl) && (f2 != w.yh)) = false := by
     simp only [cC,List.mem_cons,List.not_mem_nil,or_false,Prod.mk.injEq] at hf
     rcases hf with ⟨rfl,rfl⟩ | ⟨rfl,rfl⟩ | ⟨rfl,rfl⟩ | ⟨rfl,rfl⟩ <;> simp
    have hfl : fI l (f1,f2) d = true := by simp only [fI,decide_eq_true_eq]; exact hlt
    have hne : ¬ ((bT l t).1 = -f1 ∧ (bT l t).2 = -f2) := by
     rintro ⟨x1,x2⟩
     have := kZ d l t hT
     simp only [bF] at this hlt
     rw [x1,x2,Int.mul_neg,Int.mul_neg] at this
     omega
    obtain ⟨hA1,hA2⟩ := hA
    cases a1 : f1 != w.xl <;> cases a2 : f1 != w.xh <;> cases a3 : f2 != w.yl <;> cases a4 : f2 != w.yh <;> first
     | (rw [a1,a2] at hA1; cases hA1; done)
     | (rw [a3,a4] at hA2; cases hA2; done)
     | (simp only [go_sem,holdV,List.cons_append,List.nil_append,g1,g2,g3,g4,a1,a2,a3,a4]
        refine aO (pP (f1,f2) d (by unfold Bd at *; omega) hfb hv.app hl (by omega)).v ?_
        rw [hfl]
        simp only [go_sem]
        refine aO (aBv hv.app (Sl.app ht) (by omega) hl hT).v ?_
        simp only [go_sem]
        refine ⟨by unfold I64; have := hfb.1; simp only at this; omega,fun q1 => ⟨by unfold I64; have := hfb.2; simp only at this; omega,fun q2 => ?_,fun q2 => absurd ⟨by omega,by omega⟩ hne⟩,fun q1 => ?_⟩
        all_goals
         refine aO jC.v ?_
         simp only [go_sem]
         exact aL.refl.app)
 · simp only [go_sem,e]
   refine aO jC.v ?_
   simp only [go_sem]
   exact aL.refl.app
end Go.Proofs.Ab

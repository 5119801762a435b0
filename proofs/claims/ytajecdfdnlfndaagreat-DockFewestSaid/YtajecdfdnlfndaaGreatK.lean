/- The own layer under the proofs of this seat, part K: what calls of the program come to on an abstract heap. No condition. -/
import Derived.Test.YtajecdfdnlfndaaGreatJ
import Derived.Test.YtajecdfdnlfndaaGreatG
set_option linter.unusedSimpArgs false
set_option linter.unusedVariables false
namespace Go.Proofs.Ab
open Go Go.Proofs
variable {w0 : World} {h : aA}
attribute [local irreducible] ACall bB cU bA dU rvC lp rg dr ex un rv
theorem in_c (x lo hi : Int) : bA Tryz.prog w0 97 [.int .i64 x,.int .i64 lo,.int .i64 hi] h (.bool (inB x lo hi)) h := by
 refine aT aV wG aBe aBd (qE rfl) (by simp [AV.bdd,AV.bdds]) fun hb ha => bC ?_
 simp only [go_sem,mf97]
 exact ⟨fun a => by simp [inB,a],fun a => by simp [inB,a]⟩
theorem vY (x lo hi : Int) : bA Tryz.prog w0 82 [.int .i64 x,.int .i64 lo,.int .i64 hi] h (.bool (inB x lo hi)) h := by
 refine aT aV aDv mf82_b mf82_g (qE rfl) (by simp [AV.bdd,AV.bdds]) fun hb ha => bC ?_
 simp only [go_sem,mf82]
 exact ⟨fun a => by simp [inB,a],fun a => by simp [inB,a]⟩
theorem mJ {α : Type} {l : List α} (d : α) {p : α → Bool} : (List.range l.length).all (fun j => p (l.getD j d)) = l.all p := by
 rw [Bool.eq_iff_iff,List.all_eq_true,List.all_eq_true]
 constructor
 · intro x a ha
   obtain ⟨i,hi,rfl⟩ := List.getElem_of_mem ha
   have := x i (List.mem_range.2 hi)
   rwa [getD_at hi] at this
 · intro x j hj
   have hj := List.mem_range.1 hj
   rw [getD_at hj]
   exact x _ (qG hj)
theorem aCb {α : Type} {l : List α} {d x : α} {j : Nat} (e : l[j]? = some x) : l.getD j d = x := by simp [List.getD_eq_getElem?_getD,e]
theorem pU {es : Nat} : ∀ {rows : List (List AV)},(∀ c ∈ rows,c.length = es) → ∀ {j : Nat} {c : List AV},rows[j]? = some c → j * es + es ≤ rows.flatten.length ∧ (rows.flatten.drop (j * es)).take es = c ∧ ∀ (o : Nat) x,c[o]? = some x → rows.flatten[j * es + o]? = some x
 | [],_,j,c,hc => by simp at hc
 | r :: rows,h,0,c,hc => by
  simp only [List.getElem?_cons_zero,Option.some.injEq] at hc; subst hc
  have hl := h r (by simp)
  subst hl
  refine ⟨by simp,by simp,fun o x hx => ?_⟩
  rw [Nat.zero_mul,Nat.zero_add,List.flatten_cons,qH (aM hx)]; exact hx
 | r :: rows,h,j + 1,c,hc => by
  have hl := h r (by simp)
  obtain ⟨a,b,e⟩ := pU (rows := rows) (es := es) (fun x hx => h x (by simp [hx])) (j := j) (by simpa using hc)
  have e1 : (j + 1) * es = r.length + j * es := by rw [Nat.add_mul,hl]; omega
  refine ⟨by rw [e1,List.flatten_cons,List.length_append]; omega,?_,fun o x hx => ?_⟩
  · rw [e1,List.flatten_cons,← List.drop_drop,List.drop_left]; exact b
  · rw [e1,List.flatten_cons,qI (by omega)]
    have := e o x hx
    rwa [show r.length + j * es + o - r.length = j * es + o by omega]
theorem pO {n : Nat} : (if (0 : Int) ≤ (n : Int) then some (n : Int).toNat else none) = some n := by rw [if_pos (by omega),Int.toNat_natCast]
theorem nQ (rows : List (List AV)) (v fv : AV) (p : Nat → Bool) (hv : Sl w0 h 3 v rows) (ho : ∀ c ∈ rows,c.all one = true) (hn : rows.length < 1000000)
 (hf : ∀ (j : Nat) c,rows[j]? = some c → (∀ i,i < j → p i = true) → ∀ L,dU Tryz.prog w0 fv [.agg c] (h ++ L) (.bool (p j)) (h ++ L)) : bA Tryz.prog w0 121 [v,fv] h (.bool ((List.range rows.length).all p)) h := by
 refine aT aV sL xH xG (qE rfl) (by simp [AV.bdd,AV.bdds]) fun hb ha => bC ?_
 have hfb : fv.bdd h.length := by simp only [AV.bdds] at ha; exact ha.2.1
 obtain ⟨hlen,q,hix,hrow,_⟩ := hv.use
 have vb := hv.bdd (Nat.le_refl _)
 simp only [go_sem,mf121,hlen]
 refine mQ (fun j => [(1,fv),(7,v),(8,.int .i64 rows.length),(9,.int .i64 j)]) (fun j => p j = true) rows.length rfl (fun j hj hall ih => ?_) (fun hall => ?_)
 · refine bF aV tL [1,7,8,9] L121_0.eq_1 ?_
   have e1 := hix j hj
   have e3 : (j : Int) < rows.length := by omega
   obtain ⟨c,hc⟩ : ∃ c,rows[j]? = some c := ⟨_,qA hj⟩
   have hl : c.length = 3 := (aDc (hrow j _ hc)).1
   have e2 : ∀ L,rdn w0 (h ++ L) (q.add (j * 3)) 3 = some c := fun L => dJ (hrow j _ hc)
   have ho := ho c (List.mem_of_getElem? hc)
   obtain ⟨x0,x1,x2,rfl⟩ : ∃ x0 x1 x2,c = [x0,x1,x2] := by
    match c,hl with
    | [x0,x1,x2],_ => exact ⟨x0,x1,x2,rfl⟩
   simp only [go_sem,e1,e2,e3,ho]
   refine aI (by simpa using hf j _ hc hall [some (.row [x0,x1,x2])]) ?_
   simp only [go_sem]
   refine ⟨fun e => ?_,fun e => ⟨(by unfold I64; omega),?_⟩⟩
   · have : (List.range rows.length).all p = false := by
      rw [List.all_eq_false]; exact ⟨j,List.mem_range.2 hj,by simp [e]⟩
     rw [this]
   · refine iI 0 hb (by simp [HBs]) (by simp [dR,dS,eU,eV,gG,eO,AV.bdds,AV.bdd,Pl.bdd,cV]; exact ⟨hfb,vb⟩) ?_
     simpa using ih e
 · refine bF aV tL [1,7,8,9] L121_0.eq_1 ?_
   have e3 : ¬ (rows.length : Int) < rows.length := by omega
   simp only [go_sem,e3]
   have : (List.range rows.length).all p = true := by rw [List.all_eq_true]; exact fun x hx => hall x (List.mem_range.1 hx)
   rw [this]
end Go.Proofs.Ab
namespace Go.Proofs.Ab
open Go Go.Proofs
structure aD where
 x : Int
 y : Int
 s : Int
structure bG where
 xl : Int
 xh : Int
 yl : Int
 yh : Int
def cC (a b : Int × Int) : Int := a.1 * b.1 + a.2 * b.2
def bR (r : aD) : Int × Int := (r.x,r.y)
def bN : List aD → Int × Int → Int
 | [],_ => 0
 | r :: l,d => r.s * max 0 (cC d (bR r)) + bN l d
def oD (l : List aD) (f d : Int × Int) : Bool := decide (bN l d < -(cC d f))
def iU (r : aD) : List (Int × Int) := [(-r.y,r.x),(r.y,-r.x),(r.x,r.y),(-r.x,-r.y)]
def dV : List (Int × Int) := [(1,0),(-1,0),(0,1),(0,-1)]
def fN (l : List aD) : List (Int × Int) := l.flatMap iU ++ dV
def dP (w : bG) : List (Int × Int) := [(w.xl,w.yl),(w.xl,w.yh),(w.xh,w.yl),(w.xh,w.yh)]
def fU (l : List aD) (f : Int × Int) : Option (Int × Int) := (fN l).find? (oD l f)
def bK (l : List aD) (w : bG) : Option ((Int × Int) × (Int × Int)) := (dP w).findSome? fun f => (fU l f).map fun d => (f,d)
def aX (r : aD) : Bool := inB r.x (-100) 100 && (inB r.y (-100) 100 && ((decide (r.x ≠ 0) || decide (r.y ≠ 0)) && inB r.s 0 1000000))
def eM (lo hi : Int) : Bool := decide (-1000000 ≤ lo) && (decide (lo ≤ hi) && decide (hi ≤ 1000000))
def fI (w : bG) : Bool := eM w.xl w.xh && eM w.yl w.yh
theorem uW {l : List aD} {w : bG} : bK l w = none ↔ ∀ f ∈ dP w,∀ d ∈ fN l,-(cC d f) ≤ bN l d := by
 simp [bK,fU,oD]
theorem iF {x y m n : Int} (h0 : -m ≤ x) (h1 : x ≤ m) (g0 : -n ≤ y) (g1 : y ≤ n) : -(m * n) ≤ x * y ∧ x * y ≤ m * n := by
 have e1 : 0 ≤ (m - x) * (n - y) := Int.mul_nonneg (by omega) (by omega)
 have e2 : 0 ≤ (m + x) * (n + y) := Int.mul_nonneg (by omega) (by omega)
 have e3 : 0 ≤ (m - x) * (n + y) := Int.mul_nonneg (by omega) (by omega)
 have e4 : 0 ≤ (m + x) * (n - y) := Int.mul_nonneg (by omega) (by omega)
 simp only [Int.sub_mul,Int.mul_sub,Int.add_mul,Int.mul_add] at e1 e2 e3 e4
 omega
theorem aAW {D : Int} {r : aD} {d : Int × Int} (hr : aX r = true) (h0 : -D ≤ d.1 ∧ d.1 ≤ D) (h1 : -D ≤ d.2 ∧ d.2 ≤ D) : (-(D * 100) ≤ d.1 * r.x ∧ d.1 * r.x ≤ D * 100) ∧ (-(D * 100) ≤ d.2 * r.y ∧ d.2 * r.y ≤ D * 100) := by
 simp only [aX,inB,Bool.and_eq_true,decide_eq_true_eq] at hr
 exact ⟨iF h0.1 h0.2 hr.1.1 hr.1.2,iF h1.1 h1.2 hr.2.1.1 hr.2.1.2⟩
theorem nU {D : Int} {r : aD} {d : Int × Int} (hr : aX r = true) (h0 : -D ≤ d.1 ∧ d.1 ≤ D) (h1 : -D ≤ d.2 ∧ d.2 ≤ D) : 0 ≤ r.s * max 0 (cC d (bR r)) ∧ r.s * max 0 (cC d (bR r)) ≤ 1000000 * (D * 200) := by
 have h := aAW hr h0 h1
 simp only [aX,inB,Bool.and_eq_true,decide_eq_true_eq] at hr
 obtain ⟨_,_,_,hs0,hs1⟩ := hr
 have hm : 0 ≤ max 0 (cC d (bR r)) ∧ max 0 (cC d (bR r)) ≤ D * 200 := by
  simp only [cC,bR]; omega
 exact ⟨Int.mul_nonneg hs0 hm.1,Int.mul_le_mul hs1 hm.2 hm.1 (by omega)⟩
theorem wC {D : Int} {d : Int × Int} (h0 : -D ≤ d.1 ∧ d.1 ≤ D) (h1 : -D ≤ d.2 ∧ d.2 ≤ D) : ∀ l : List aD,l.all aX = true → 0 ≤ bN l d ∧ bN l d ≤ l.length * (1000000 * (D * 200))
 | [],_ => by simp [bN]
 | r :: l,h => by
  simp only [List.all_cons,Bool.and_eq_true] at h
  have a := nU h.1 h0 h1
  have b := wC h0 h1 l h.2
  simp only [bN,List.length_cons,Int.natCast_add,Int.add_mul] at *
  omega
def InC (u v d : Int × Int) : Prop := ∃ k a b : Int,0 < k ∧ 0 ≤ a ∧ 0 ≤ b ∧ k * d.1 = a * u.1 + b * v.1 ∧ k * d.2 = a * u.2 + b * v.2
def NSg (u v : Int × Int) (r : aD) : Prop := (0 ≤ cC u (bR r) ∧ 0 ≤ cC v (bR r)) ∨ (cC u (bR r) ≤ 0 ∧ cC v (bR r) ≤ 0)
theorem InC.left (u v : Int × Int) : InC u v u := ⟨1,1,0,by omega,by omega,by omega,by simp,by simp⟩
theorem InC.right (u v : Int × Int) : InC u v v := ⟨1,0,1,by omega,by omega,by omega,by simp,by simp⟩
theorem mK {k x : Int} (hk : 0 < k) (h : 0 ≤ k * x) : 0 ≤ x := Int.le_of_mul_le_mul_left (by simpa using h) hk
theorem uP {k x : Int} (hk : 0 < k) (h : k * x ≤ 0) : x ≤ 0 := Int.le_of_mul_le_mul_left (by simpa using h) hk
theorem InC.dot {u v d : Int × Int} {k a b : Int} (h1 : k * d.1 = a * u.1 + b * v.1) (h2 : k * d.2 = a * u.2 + b * v.2) (r : Int × Int) : k * cC d r = a * cC u r + b * cC v r := by
 simp only [cC]; grind
theorem NSg.inner {u v d : Int × Int} {r : aD} (h : NSg u v r) (hd : InC u v d) : (0 ≤ cC u (bR r) ∧ 0 ≤ cC v (bR r) ∧ 0 ≤ cC d (bR r)) ∨ (cC u (bR r) ≤ 0 ∧ cC v (bR r) ≤ 0 ∧ cC d (bR r) ≤ 0) := by
 obtain ⟨k,a,b,hk,ha,hb,h1,h2⟩ := hd
 have e := InC.dot h1 h2 (bR r)
 rcases h with ⟨p,q⟩ | ⟨p,q⟩
 · refine .inl ⟨p,q,mK hk ?_⟩
   have := Int.mul_nonneg ha p; have := Int.mul_nonneg hb q; omega
 · refine .inr ⟨p,q,uP hk ?_⟩
   have := Int.mul_nonpos_of_nonneg_of_nonpos ha p; have := Int.mul_nonpos_of_nonneg_of_nonpos hb q; omega
theorem NSg.mid {u v p : Int × Int} {r : aD} (h : NSg u v r) (hp : InC u v p) : NSg u p r ∧ NSg p v r := by
 rcases h.inner hp with ⟨a,b,c⟩ | ⟨a,b,c⟩
 · exact ⟨.inl ⟨a,c⟩,.inl ⟨c,b⟩⟩
 · exact ⟨.inr ⟨a,c⟩,.inr ⟨c,b⟩⟩
theorem InC.swap {u v d : Int × Int} (h : InC u v d) : InC v u d := by
 obtain ⟨k,a,b,hk,ha,hb,h1,h2⟩ := h
 exact ⟨k,b,a,hk,hb,ha,by omega,by omega⟩
theorem NSg.swap {u v : Int × Int} {r : aD} (h : NSg u v r) : NSg v u r := h.imp (fun x => ⟨x.2,x.1⟩) fun x => ⟨x.2,x.1⟩
theorem across {u v d : Int × Int} {r : aD} (hu : 0 < cC u (bR r)) (hv : cC v (bR r) < 0) (hr : r.x ≠ 0 ∨ r.y ≠ 0) (hd : InC u v d) :
 (InC u u d ∨ InC v v d) ∨ ∃ p,(p = (-r.y,r.x) ∨ p = (r.y,-r.x)) ∧ InC u v p ∧ (InC u p d ∨ InC p v d) := by
 obtain ⟨k,a,b,hk,ha,hb,h1,h2⟩ := hd
 obtain ⟨P,hP⟩ : ∃ P,P = cC u (bR r) := ⟨_,rfl⟩
 obtain ⟨Q,hQ⟩ : ∃ Q,Q = -cC v (bR r) := ⟨_,rfl⟩
 have p0 : 0 < P := by omega
 have q0 : 0 < Q := by omega
 obtain ⟨w1,hw1⟩ : ∃ w,w = Q * u.1 + P * v.1 := ⟨_,rfl⟩
 obtain ⟨w2,hw2⟩ : ∃ w,w = Q * u.2 + P * v.2 := ⟨_,rfl⟩
 obtain ⟨n,hn⟩ : ∃ n,n = r.x * r.x + r.y * r.y := ⟨_,rfl⟩
 obtain ⟨D,hD⟩ : ∃ D,D = r.x * w2 - r.y * w1 := ⟨_,rfl⟩
 have n0 : 0 < n := by
  have sq : ∀ z : Int,0 ≤ z * z := fun z => (Int.le_total 0 z).elim (fun h => Int.mul_nonneg h h) fun h => Int.mul_nonneg_of_nonpos_of_nonpos h h
  have sp : ∀ z : Int, z ≠ 0 → 0 < z * z := fun z hz => by have := sq z; have : z * z ≠ 0 := by simpa using hz
                                                           omega
  have := sq r.x; have := sq r.y
  rcases hr with h | h
  · have := sp _ h; omega
  · have := sp _ h; omega
 have hz : w1 * r.x + w2 * r.y = 0 := by simp only [cC,bR] at hP hQ; grind
 have e1 : n * w1 = -(r.y * D) := by grind
 have e2 : n * w2 = r.x * D := by grind
 have key : ∀ M : Int,0 < M → ∀ p : Int × Int,M * p.1 = n * w1 → M * p.2 = n * w2 → InC u v p ∧ (InC u p d ∨ InC p v d) := by
  intro M hM p g1 g2
  refine ⟨⟨M,n * Q,n * P,hM,Int.le_of_lt (Int.mul_pos n0 q0),Int.le_of_lt (Int.mul_pos n0 p0),by grind,by grind⟩,?_⟩
  rcases Int.le_total 0 (a * P - b * Q) with hs | hs
  · exact .inl ⟨n * (P * k),n * (a * P - b * Q),b * M,Int.mul_pos n0 (Int.mul_pos p0 hk),Int.mul_nonneg (Int.le_of_lt n0) hs,Int.mul_nonneg hb (Int.le_of_lt hM),by grind,by grind⟩
  · exact .inr ⟨n * (Q * k),a * M,n * (b * Q - a * P),Int.mul_pos n0 (Int.mul_pos q0 hk),Int.mul_nonneg ha (Int.le_of_lt hM),Int.mul_nonneg (Int.le_of_lt n0) (by omega),by grind,by grind⟩
 rcases Int.lt_trichotomy D 0 with hd0 | hd0 | hd0
 · exact .inr ⟨_,.inr rfl,key (-D) (by omega) (r.y,-r.x) (by simp only; grind) (by simp only; grind)⟩
 · left
   have z1 : w1 = 0 := by have : n * w1 = 0 := by rw [e1, hd0]; simp
                          exact (Int.mul_eq_zero.1 this).resolve_left (by omega)
   have z2 : w2 = 0 := by have : n * w2 = 0 := by rw [e2, hd0]; simp
                          exact (Int.mul_eq_zero.1 this).resolve_left (by omega)
   rcases Int.le_total 0 (a * P - b * Q) with hs | hs
   · exact .inl ⟨P * k,a * P - b * Q,0,Int.mul_pos p0 hk,hs,by omega,by grind,by grind⟩
   · exact .inr ⟨Q * k,b * Q - a * P,0,Int.mul_pos q0 hk,by omega,by omega,by grind,by grind⟩
 · exact .inr ⟨_,.inl rfl,key D hd0 (-r.y,r.x) (by simp only; grind) (by simp only; grind)⟩
theorem cone {S : Int × Int → Prop} {d : Int × Int} : ∀ (l done : List aD) (u v : Int × Int),(∀ r ∈ l,(r.x ≠ 0 ∨ r.y ≠ 0) ∧ S (-r.y,r.x) ∧ S (r.y,-r.x)) → S u → S v → InC u v d → (∀ r ∈ done,NSg u v r) →
 ∃ u v,S u ∧ S v ∧ InC u v d ∧ (∀ r ∈ done,NSg u v r) ∧ ∀ r ∈ l,NSg u v r
 | [],done,u,v,_,hu,hv,hd,hn => ⟨u,v,hu,hv,hd,hn,by simp⟩
 | r :: l,done,u,v,hl,hu,hv,hd,hn => by
  have hr := hl r (by simp)
  have go : ∀ u v,S u → S v → InC u v d → (∀ r ∈ done,NSg u v r) → NSg u v r → ∃ u v,S u ∧ S v ∧ InC u v d ∧ (∀ r ∈ done,NSg u v r) ∧ ∀ x ∈ r :: l,NSg u v x := by
   intro u v hu hv hd hn h
   obtain ⟨u',v',a,b,c,e,f⟩ := cone l (r :: done) u v (fun x hx => hl x (by simp [hx])) hu hv hd (by simpa using ⟨h,hn⟩)
   rw [List.forall_mem_cons] at e
   exact ⟨u',v',a,b,c,e.2,by simpa using ⟨e.1,f⟩⟩
  have go2 : ∀ u v,S u → S v → InC u v d → (∀ r ∈ done,NSg u v r) → 0 < cC u (bR r) → cC v (bR r) < 0 → ∃ u v,S u ∧ S v ∧ InC u v d ∧ (∀ r ∈ done,NSg u v r) ∧ ∀ x ∈ r :: l,NSg u v x := by
   intro u v hu hv hd hn h1 h2
   have self : ∀ (w : Int × Int) (x : aD),NSg w w x := fun w x => (Int.le_total 0 (cC w (bR x))).elim (fun h => .inl ⟨h,h⟩) fun h => .inr ⟨h,h⟩
   rcases across h1 h2 hr.1 hd with (h | h) | ⟨p,hp,hp1,h⟩
   · exact go u u hu hu h (fun x _ => self u x) (self u r)
   · exact go v v hv hv h (fun x _ => self v x) (self v r)
   · have sp : S p := hp.elim (fun e => e ▸ hr.2.1) fun e => e ▸ hr.2.2
     have zp : cC p (bR r) = 0 := by rcases hp with rfl | rfl <;> · simp only [cC,bR]; grind
     rcases h with h | h
     · exact go u p hu sp h (fun x hx => ((hn x hx).mid hp1).1) (.inl ⟨by omega,by omega⟩)
     · exact go p v sp hv h (fun x hx => ((hn x hx).mid hp1).2) (.inr ⟨by omega,by omega⟩)
  rcases Int.lt_trichotomy (cC u (bR r)) 0 with h1 | h1 | h1 <;> rcases Int.lt_trichotomy (cC v (bR r)) 0 with h2 | h2 | h2
  · exact go u v hu hv hd hn (.inr ⟨by omega,by omega⟩)
  · exact go u v hu hv hd hn (.inr ⟨by omega,by omega⟩)
  · exact go2 v u hv hu hd.swap (fun x hx => (hn x hx).swap) h2 h1
  · exact go u v hu hv hd hn (.inr ⟨by omega,by omega⟩)
  · exact go u v hu hv hd hn (.inr ⟨by omega,by omega⟩)
  · exact go u v hu hv hd hn (.inl ⟨by omega,by omega⟩)
  · exact go2 u v hu hv hd hn h1 h2
  · exact go u v hu hv hd hn (.inl ⟨by omega,by omega⟩)
  · exact go u v hu hv hd hn (.inl ⟨by omega,by omega⟩)
theorem nW {u v d : Int × Int} {k a b : Int} (hk : 0 < k) (ha : 0 ≤ a) (hb : 0 ≤ b) (h1 : k * d.1 = a * u.1 + b * v.1) (h2 : k * d.2 = a * u.2 + b * v.2) : ∀ l : List aD,(∀ r ∈ l,NSg u v r) → k * bN l d = a * bN l u + b * bN l v
 | [],_ => by simp [bN]
 | r :: l,h => by
  have ih := nW hk ha hb h1 h2 l fun x hx => h x (by simp [hx])
  have hi := (h r (by simp)).inner ⟨k,a,b,hk,ha,hb,h1,h2⟩
  have e := InC.dot h1 h2 (bR r)
  simp only [bN]
  rcases hi with ⟨p,q,s⟩ | ⟨p,q,s⟩
  · rw [Int.max_eq_right p,Int.max_eq_right q,Int.max_eq_right s]; grind
  · rw [Int.max_eq_left p,Int.max_eq_left q,Int.max_eq_left s]; grind
theorem tU (d : Int × Int) : ∃ u v,u ∈ dV ∧ v ∈ dV ∧ InC u v d := by
 rcases Int.le_total 0 d.1 with h1 | h1 <;> rcases Int.le_total 0 d.2 with h2 | h2
 · exact ⟨(1,0),(0,1),by simp [dV],by simp [dV],1,d.1,d.2,by omega,h1,h2,by simp,by simp⟩
 · exact ⟨(1,0),(0,-1),by simp [dV],by simp [dV],1,d.1,-d.2,by omega,h1,by omega,by simp,by simp⟩
 · exact ⟨(-1,0),(0,1),by simp [dV],by simp [dV],1,-d.1,d.2,by omega,by omega,h2,by simp,by simp⟩
 · exact ⟨(-1,0),(0,-1),by simp [dV],by simp [dV],1,-d.1,-d.2,by omega,by omega,by omega,by simp,by simp⟩
theorem aA5 {l : List aD} {f : Int × Int} (hl : l.all aX = true) (h : ∀ d ∈ fN l,-(cC d f) ≤ bN l d) (d : Int × Int) : -(cC d f) ≤ bN l d := by
 obtain ⟨u,v,hu,hv,hd⟩ := tU d
 obtain ⟨u,v,hu,hv,⟨k,a,b,hk,ha,hb,h1,h2⟩,_,hn⟩ := cone (S := fun x => x ∈ fN l) l [] u v (fun r hr => by
  have := List.all_eq_true.1 hl r hr
  simp only [aX,Bool.and_eq_true,Bool.or_eq_true,decide_eq_true_eq] at this
  refine ⟨this.2.2.1,List.mem_append_left _ (List.mem_flatMap.2 ⟨r,hr,by simp [iU]⟩),List.mem_append_left _ (List.mem_flatMap.2 ⟨r,hr,by simp [iU]⟩)⟩) (List.mem_append_right _ hu) (List.mem_append_right _ hv) hd (by simp)
 have e := nW hk ha hb h1 h2 l hn
 have e2 := InC.dot h1 h2 f
 have g1 := Int.mul_nonneg ha (show 0 ≤ bN l u + cC u f by have := h u hu; omega)
 have g2 := Int.mul_nonneg hb (show 0 ≤ bN l v + cC v f by have := h v hv; omega)
 have := mK hk (x := bN l d + cC d f) (by rw [Int.mul_add] at g1 g2 ⊢; omega)
 omega
def eT : List Int → List Int → Bool
 | a :: r,b :: s => if a = b then eT r s else decide (a < b)
 | _,_ => false
theorem hJ (p r s : List Int) : eT (p ++ r) (p ++ s) = eT r s := by
 induction p with
 | nil => rfl
 | cons a p ih => simp [eT,ih]
end Go.Proofs.Ab
namespace Go.Proofs.Ab
open Go Go.Proofs
variable {w0 : World} {h : aA}
attribute [local irreducible] ACall bB cU bA dU rvC lp rg dr ex un rv
theorem aAD (a b lo hi : Int) : bA Tryz.prog w0 115 [.agg [.int .i64 a,.int .i64 b],.int .i64 lo,.int .i64 hi] h (.bool (decide (lo ≤ a) && (decide (a ≤ b) && decide (b ≤ hi)))) h := by
 refine aT aV sM xJ xI (qE rfl) (by simp [AV.bdd,AV.bdds]) fun hb ha => bC ?_
 simp only [go_sem,mf115]
 exact ⟨fun x => ⟨fun y => by simp [x,y],fun y => by simp [x,y]⟩,fun x => by simp [x]⟩
@[go_sem] def aD.c (r : aD) : List AV := [.int .i64 r.x,.int .i64 r.y,.int .i64 r.s]
@[go_sem] def bG.c (w : bG) : List AV := [.int .i64 w.xl,.int .i64 w.xh,.int .i64 w.yl,.int .i64 w.yh]
@[go_sem] def pC (p : Int × Int) : List AV := [.int .i64 p.1,.int .i64 p.2]
def Bd (D : Int) (p : Int × Int) : Prop := (-D ≤ p.1 ∧ p.1 ≤ D) ∧ -D ≤ p.2 ∧ p.2 ≤ D
theorem by_c (p q : Int × Int) {D E : Int} (hp : Bd D p) (hq : Bd E q) (hD : D * E ≤ 1000000000000) : bA Tryz.prog w0 126 [.agg (pC p),.agg (pC q)] h (.int .i64 (cC p q)) h := by
 refine aT aV sF wX wW (qE rfl) (by simp [AV.bdd,AV.bdds]) fun hb ha => bC ?_
 have h1 := iF hp.1.1 hp.1.2 hq.1.1 hq.1.2
 have h2 := iF hp.2.1 hp.2.2 hq.2.1 hq.2.2
 simp only [go_sem,mf126]
 exact ⟨(by unfold I64; omega),(by unfold I64; omega),(by unfold I64; omega),rfl⟩
theorem zB (l m : List aD) (d : Int × Int) : bN (l ++ m) d = bN l d + bN m d := by
 induction l with
 | nil => simp [bN]
 | cons r l ih => simp only [List.cons_append,bN,ih]; omega
theorem uM {l : List aD} {j : Nat} (hj : j < l.length) (d : Int × Int) : bN (l.take (j + 1)) d = bN (l.take j) d + l[j].s * max 0 (cC d (bR l[j])) := by
 rw [List.take_succ_eq_append_getElem hj,zB]; simp [bN]
theorem pull_c (d : Int × Int) {v : AV} {l : List aD} {D : Int} (hd : Bd D d) (hD0 : 0 ≤ D) (hD : D ≤ 10000) (hv : Sl w0 h 3 v (l.map aD.c)) (hl : l.all aX = true) (hn : l.length ≤ 20) :
 bA Tryz.prog w0 127 [.agg (pC d),v] h (.int .i64 (bN l d)) h := by
 refine aT aV sE wV wU (qE rfl) (by simp [AV.bdd,AV.bdds]) fun hb ha => bC ?_
 obtain ⟨hlen,q,hix,hrow,_⟩ := hv.use
 rw [List.length_map] at hlen hix
 have vb := hv.bdd (Nat.le_refl _)
 simp only [go_sem,mf127,hlen]
 have key : ∀ j : Nat,0 ≤ bN (l.take j) d ∧ bN (l.take j) d ≤ 20 * (1000000 * (D * 200)) := fun j => by
  have := wC hd.1 hd.2 (l.take j) (by rw [List.all_eq_true] at hl ⊢; exact fun x hx => hl x (List.mem_of_mem_take hx))
  have h2 : ((l.take j).length : Int) * (1000000 * (D * 200)) ≤ 20 * (1000000 * (D * 200)) := Int.mul_le_mul_of_nonneg_right (by rw [List.length_take]; omega) (by omega)
  omega
 refine eL (S := Nat) (F := fun j => [(2,.ptr (.own h.length 0)),(5,.int .i64 (bN (l.take j) d)),(8,v),(9,.int .i64 l.length),(10,.int .i64 j)]) (H := fun _ => h ++ [some (.row (pC d))]) (meas := fun j => l.length - j) (Inv := fun j => j ≤ l.length) 0 (Nat.zero_le _) (by simp [bN]) rfl ?_
 intro j hj ih
 refine bF aV aCG [2,5,8,9,10] L127_0.eq_1 ?_
 by_cases hjl : j < l.length
 · have e1 : (j : Int) < l.length := by omega
   have e2 := hix j hjl
   have hr : (l.map aD.c)[j]? = some l[j].c := by rw [List.getElem?_map,qA hjl]; rfl
   have e3 : ∀ L,rdn w0 (h ++ L) (q.add (j * 3)) 3 = some l[j].c := fun L => dJ (hrow j _ hr)
   have hR := List.all_eq_true.1 hl _ (qG hjl)
   have hb1 := nU hR hd.1 hd.2
   have k1 := key j
   have hrb : Bd 100 (bR l[j]) := by
    simp only [aX,inB,Bool.and_eq_true,decide_eq_true_eq] at hR
    exact ⟨hR.1,hR.2.1⟩
   simp only [go_sem,e1,e2,e3]
   refine nB aV [0,1,2,3,4,5,6,7,8,9,10,11,12,13] [o_ 14 (m_ 5),o_ 15 (.addr (.t 7) 2),o_ 16 (l_ 15),o_ 17 (.load (.t 2) (some 2)),o_ 18 (.addr (.t 7) 0),o_ 19 (l_ 18),o_ 20 (.addr (.t 7) 1),o_ 21 (l_ 20),o_ 22 (.build [(.int .i64 0),(.int .i64 0)] [(0,1,(.t 19)),(1,1,(.t 21))]),.call (some 23) none (f_ 126) [(.t 17),(.t 22)]] [([(2,o_ 16 (l_ 15))],[o_ 24 (.minmax false [(i_ 0),(.t 23)]),o_ 25 (.bin .mul (.t 16) (.t 24)),o_ 26 (.bin .add (.t 14) (.t 25)),o_ 5 (m_ 26)])] rfl rfl (by kernel_rfl) ?_
   simp only [go_sem,e1]
   refine aI (by_c d (bR l[j]) hd hrb (by omega)).v ?_
   simp only [go_sem]
   refine ⟨(by unfold I64; omega),(by unfold I64; omega),(by unfold I64; omega),iI 1 hb (by simp [dR,dS,eU,eV,gG,eO,AV.bdds,AV.bdd,Pl.bdd,cV]) (by simp [dR,dS,eU,eV,gG,eO,AV.bdds,AV.bdd,Pl.bdd,cV]; exact AV.bdd_mono (by omega) _ vb) ?_⟩
   have := ih (j + 1) (by omega) (by omega)
   rw [uM hjl] at this
   simpa [pC] using this
 · have e1 : ¬ (j : Int) < l.length := by omega
   obtain rfl : j = l.length := by omega
   simp only [go_sem,e1]
   simp
theorem aFk (d f : Int × Int) {v : AV} {l : List aD} {p q : Pl} (hd : Bd 10000 d) (hf : Bd 1000000 f) (hp : rdn w0 h p 2 = some (pC f)) (hq : rd w0 h q = some v) (hv : Sl w0 h 3 v (l.map aD.c)) (hl : l.all aX = true) (hn : l.length ≤ 20) :
 bA Tryz.prog w0 125 [.agg (pC d),.ptr p,.ptr q] h (.bool (oD l f d)) h := by
 refine aT aV sG wZ wY (qE rfl) (by simp [AV.bdd,AV.bdds]) fun hb ha => bC ?_
 have e1 : ∀ L,rdn w0 (h ++ L) p 2 = some (pC f) := fun L => dJ hp
 have e2 : ∀ L,rd w0 (h ++ L) q = some v := fun L => mI hq
 have h1 := iF hd.1.1 hd.1.2 hf.1.1 hf.1.2
 have h2 := iF hd.2.1 hd.2.2 hf.2.1 hf.2.2
 simp only [go_sem,mf125]
 refine nB aV [0,1,4,5,2,3,6,7,8] [o_ 5 (.load (.t 3) (some 2)),o_ 6 (.load (.t 1) (some 2)),o_ 9 (.load (.t 3) (some 2)),o_ 10 (l_ 2),.call (some 7) none (f_ 126) [(.t 5),(.t 6)]] [([(2,o_ 9 (.load (.t 3) (some 2))),(3,o_ 10 (l_ 2))],[o_ 8 (.un .neg (.t 7)),.call (some 11) none (f_ 127) [(.t 9),(.t 10)],o_ 12 (.bin .gtr (.t 8) (.t 11)),o_ 4 (m_ 12)])] rfl rfl (by kernel_rfl) ?_
 simp only [go_sem,e1,e2]
 refine aI (by_c d f hd hf (by omega)).v ?_
 simp only [go_sem,e2]
 have hi : I64 (0 - cC d f) := by unfold I64; simp only [cC]; omega
 refine ⟨hi,?_⟩
 refine aI (pull_c d hd (by omega) (by omega) (hv.app) hl hn).v ?_
 simp only [go_sem]
 simp only [oD,Int.zero_sub]
theorem dirs_c {v : AV} (hv : cellsOf v = some [v]) : ACall Tryz.prog w0 124 [v] h fun y H => y = .fn (.func 143) [] [.ptr (.own h.length 0)] ∧ H = h ++ [some (.row [v])] := by
 refine bI aV sI xB xA (qE rfl) fun hb ha => bC ?_
 simp only [go_sem,mf124,hv]
def PV (x : Int × Int) (_ : aA) (args : List AV) : Prop := args = [.agg (pC x)]
theorem aA7 {l : List (Int × Int)} {j : Nat} (hj : j < l.length) : ((((l.map pC).flatten).drop (j * 2)).take 2) = pC l[j] := by
 have := pU (rows := l.map pC) (es := 2) (fun c hc => by obtain ⟨x,_,rfl⟩ := List.mem_map.1 hc; rfl) (j := j) (c := pC l[j]) (by rw [List.getElem?_map,qA hj]; rfl)
 exact this.2.1
theorem aFo {C : List Nat} {q : Nat} {p : Pl} {v : AV} {l : List aD} {K : aA → Prop} (hp : rd w0 (msk C h) p = some v) (hv : Sl w0 (msk C h) 3 v (l.map aD.c)) (hl : l.all aX = true) (hn : l.length ≤ 20)
 (hI : eI Tryz.prog w0 q C PV (· = []) K (fN l) [] h) : ACall Tryz.prog w0 143 [.yld q,.ptr p] h fun _ H => K H := by
 refine bI aV sD wT wS (qE rfl) fun hb ha => bC ?_
 have e0 : ∀ L,rd w0 (h ++ L) p = some v := fun L => mI (xQ.rd hp)
 have hlen : jE v = some (.int .i64 l.length) := by have := hv.use.1; rwa [List.length_map] at this
 simp only [go_sem,mf143,e0,hlen]
 refine eL (S := Nat × aA) (F := fun s => [(0,.yld q),(9,v),(10,.int .i64 l.length),(11,.int .i64 s.1)]) (H := fun s => s.2) (meas := fun s => l.length - s.1)
  (Inv := fun s => s.1 ≤ l.length ∧ cA C h s.2 ∧ eI Tryz.prog w0 q C PV (· = []) K ((l.drop s.1).flatMap iU ++ dV) [] s.2) (0,h) ⟨Nat.zero_le _,cA.refl,by simpa [fN] using hI⟩ rfl (by simp) ?_
 rintro ⟨j,H⟩ ⟨hj,kH,iH⟩ ih
 simp only at hj kH iH ih ⊢
 refine bF aV aCE [0,9,10,11] L143_1.eq_1 ?_
 by_cases hjl : j < l.length
 · have e1 : (j : Int) < l.length := by omega
   have hvH := hv.sub ((kH.msk (ms := C) fun i hi => .inl hi).trans (xQ (ms := C)))
   obtain ⟨_,p3,hix,hrow,_⟩ := hvH.use
   rw [List.length_map] at hix
   have e2 := hix j hjl
   have hr : (l.map aD.c)[j]? = some l[j].c := by rw [List.getElem?_map,qA hjl]; rfl
   have e3 : ∀ L,rdn w0 (H ++ L) (p3.add (j * 3)) 3 = some l[j].c := fun L => dJ (hrow j _ hr)
   have e3' := hrow j _ hr
   have hR := List.all_eq_true.1 hl _ (qG hjl)
   simp only [aX,inB,Bool.and_eq_true,decide_eq_true_eq] at hR
   obtain ⟨r,hr'⟩ : ∃ r,r = l[j] := ⟨_,rfl⟩
   rw [← hr'] at hR
   rw [List.drop_eq_getElem_cons hjl,List.flatMap_cons,← hr',List.append_assoc] at iH
   simp only [go_sem,e1,e2,e3,e3',← hr',Int.zero_sub]
   refine ⟨(by unfold I64; omega),(by unfold I64; omega),(by unfold I64; omega),(by unfold I64; omega),?_⟩
   refine eL (S := Nat × aA) (F := fun s => [(0,.yld q),(9,v),(10,.int .i64 l.length),(11,.int .i64 j),(39,.agg ((iU r).map pC).flatten),(40,.int .i64 s.1)]) (H := fun s => s.2) (meas := fun s => 4 - s.1)
    (Inv := fun s => s.1 ≤ 4 ∧ cA C h s.2 ∧ eI Tryz.prog w0 q C PV (· = []) K ((iU r).drop s.1 ++ ((l.drop (j + 1)).flatMap iU ++ dV)) [] s.2) (0,_) ⟨by simp,kH.app,iH.keep aG.refl.app.toK⟩ rfl rfl ?_
   rintro ⟨i,G⟩ ⟨hi,kG,iG⟩ ih2
   simp only at hi kG iG ih2 ⊢
   refine bF aV aCF [0,9,10,11,39,40] L143_0.eq_1 ?_
   by_cases hi4 : i < 4
   · have e4 : (i : Int) < 4 := by omega
     have hx := aA7 (l := iU r) (j := i) hi4
     rw [List.drop_eq_getElem_cons (show i < (iU r).length from hi4),List.cons_append] at iG
     simp only [go_sem,e4,hi4,hx]
     refine aZ (eI.call iG aG.refl.app.toK [] rfl (fun i hi => by cases hi) (fun i hi => by cases hi) rfl) ?_
     rintro y G1 ⟨k1,r1⟩
     have k2 : cA C h G1 := kG.trans ((aG.refl.app.toK (C := C)).trans k1)
     rcases r1 with ⟨rfl,it⟩ | ⟨rfl,kk⟩
     · simp only [go_sem]
       exact ⟨(by unfold I64; omega),ih2 (i + 1,G1) ⟨by simp only; omega,k2,it⟩ (by simp only; omega)⟩
     · simp only [go_sem]
       exact kk _ cA.refl
   · have e4 : ¬ (i : Int) < 4 := by omega
     obtain rfl : i = 4 := by omega
     simp only [go_sem,e4]
     exact ⟨(by unfold I64; omega),ih (j + 1,G) ⟨by simp only; omega,kG,iG⟩ (by simp only; omega)⟩
 · have e1 : ¬ (j : Int) < l.length := by omega
   obtain rfl : j = l.length := by omega
   rw [List.drop_length,List.flatMap_nil,List.nil_append] at iH
   simp only [go_sem,e1]
   refine eL (S := Nat × aA) (F := fun s => [(0,.yld q),(53,.agg (dV.map pC).flatten),(54,.int .i64 s.1)]) (H := fun s => s.2) (meas := fun s => 4 - s.1)
    (Inv := fun s => s.1 ≤ 4 ∧ eI Tryz.prog w0 q C PV (· = []) K (dV.drop s.1) [] s.2) (0,_) ⟨by simp,iH⟩ rfl (by simp) ?_
   rintro ⟨i,G⟩ ⟨hi,iG⟩ ih2
   simp only at hi iG ih2 ⊢
   refine bF aV aCD [0,53,54] L143_2.eq_1 ?_
   by_cases hi4 : i < 4
   · have e4 : (i : Int) < 4 := by omega
     have hx := aA7 (l := dV) (j := i) hi4
     rw [List.drop_eq_getElem_cons (show i < dV.length from hi4)] at iG
     simp only [go_sem,e4,hi4,hx]
     refine aZ (eI.call iG aG.refl.app.toK [] rfl (fun i hi => by cases hi) (fun i hi => by cases hi) rfl) ?_
     rintro y G1 ⟨k1,r1⟩
     rcases r1 with ⟨rfl,it⟩ | ⟨rfl,kk⟩
     · simp only [go_sem]
       exact ⟨(by unfold I64; omega),ih2 (i + 1,G1) ⟨by simp only; omega,it⟩ (by simp only; omega)⟩
     · simp only [go_sem]
       exact kk _ cA.refl
   · have e4 : ¬ (i : Int) < 4 := by omega
     obtain rfl : i = 4 := by omega
     simp only [go_sem,e4]
     exact iG _ cA.refl
def kS (o : Option (Int × Int)) : AV := match o with
 | some d => .tup [.agg (pC d),.bool true]
 | none => .tup [.agg (pC (0,0)),.bool false]
theorem pV {p : Pl} {v fv : AV} {l : List aD} (P : Int × Int → Bool) (hp : rd w0 h p = some v) (hv : Sl w0 h 3 v (l.map aD.c)) (hl : l.all aX = true) (hn : l.length ≤ 20) (hfo : cellsOf fv = some [fv])
 (hf : ∀ d ∈ fN l,∀ H,aG h H → dU Tryz.prog w0 fv [.agg (pC d)] H (.bool (P d)) H) :
 bA Tryz.prog w0 123 [.fn (.func 143) [] [.ptr p],fv] h (kS ((fN l).find? P)) h := by
 have hbv : ∀ N,(kS ((fN l).find? P)).bdd N := fun N => by unfold kS; split <;> simp [AV.bdd,AV.bdds,pC]
 refine dT (hbv _) (bI aV sJ xD xC (qE rfl) fun hb ha => bC ?_)
 simp only [go_sem,mf123,hfo]
 refine vZ [3,4,5,8] ?_
 simp only [go_sem]
 refine aAY (fid := 143) (first := []) rfl (.inl rfl) fun hca hcb hps => ?_
 simp only [go_sem]
 obtain ⟨N,eN⟩ : ∃ N,N = h.length := ⟨_,rfl⟩
 obtain ⟨LB,hLB⟩ : ∃ LB : LoopState → Option Code → Blk,LB = Blk.loop 15 [(3,AV.ptr (Pl.own (List.length h) 0)),(4,AV.ptr (Pl.own (List.length h + 1) 0)),(5,AV.ptr (Pl.own (List.length h + 2) 0)),(8,AV.fn (Fn.func 143) [] [AV.ptr p])] #[9] (bP (cS 123) [1,0,1,0,0]) (bP (cS 123) [1,0,1,0,1]) := ⟨_,rfl⟩
 rw [← hLB]
 obtain ⟨C,eC⟩ : ∃ C,C = [N + 1,N + 2,N + 3] := ⟨_,rfl⟩
 obtain ⟨G0,eG0⟩ : ∃ G0 : aA,G0 = h ++ [some (.row [fv]),some (.row [.int .i64 0,.int .i64 0]),some (.row [.bool false]),some (LB .ready none)] := ⟨_,rfl⟩
 have hm : aG h (msk C G0) := by
  rw [eG0]
  refine ⟨by rw [fK]; simp,fun i b e => ?_⟩
  have := aM e
  rw [lP (by rw [eC]; simp; omega)]; exact aC e
 rw [← eG0,← eN]
 refine aFo (C := C) (hm.rd hp) (hv.sub hm) hl hn ?_
 have claim : ∀ (r : List (Int × Int)),(∀ d ∈ r,d ∈ fN l) → (fN l).find? P = r.find? P → ∀ H,aG h H → H[N]? = some (some (.row [fv])) → H[N + 1]? = some (some (.row [.int .i64 0,.int .i64 0])) → H[N + 2]? = some (some (.row [.bool false])) → H[N + 3]? = some (some (LB .ready none)) →
  eI Tryz.prog w0 (N + 3) C PV (· = []) (fun h' => rgE Tryz.prog w0 none 15 N (yZ w0 [RV.c 4 (some 2),RV.c 5 none] fun v' h' => aG h h' ∧ v' = kS (List.find? P (fN l)))
  [It.inBlk 0,It.code ((SC.reg [MIx.op (some 7) none (MOp.alloc [AV.int IntKind.i64 0,AV.int IntKind.i64 0])]).seq ((SC.reg [MIx.op (some 14) none (MOp.load (Opd.t 7) (some 2)),MIx.op none none (MOp.store (Opd.t 4) (Opd.t 14) 2),MIx.op none none (MOp.store (Opd.t 5) (Opd.k (AV.bool false)) 1)]).seq SC.ret))]
  [(3,AV.ptr (Pl.own N 0)),(4,AV.ptr (Pl.own (N + 1) 0)),(5,AV.ptr (Pl.own (N + 2) 0)),(8,AV.fn (Fn.func 143) [] [AV.ptr p])] h'[N + 3]? (List.set h' (N + 3) none)) r [] H := by
  intro r
  induction r with
  | nil =>
   intro hr hfd H sH g0 g1 g2 g3 H2 kp
   have f1 := kp.at_ _ _ (by simp) g1
   have f2 := kp.at_ _ _ (by simp) g2
   have f3 := kp.at_ _ _ (by simp) g3
   have s2 : aG h H2 := ⟨Nat.le_trans sH.1 kp.le,fun i b e => kp.at_ _ _ (by simp) (sH.2 _ _ e)⟩
   obtain ⟨X,eX⟩ : ∃ X,X = H2.set (N + 3) none := ⟨_,rfl⟩
   have lX : X.length = H2.length := by rw [eX,List.length_set]
   have q3 := aM f3
   have x1 : ∀ L,(X ++ L)[N + 1]? = some (some (.row [.int .i64 0,.int .i64 0])) := fun L => aC (by rw [eX,qB (by omega)]; exact f1)
   have x2 : ∀ L b,((X ++ L).set (N + 1) b)[N + 2]? = some (some (.row [.bool false])) := fun L b => by
    rw [qB (by omega)]; exact aC (by rw [eX,qB (by omega)]; exact f2)
   have x3 : ∀ L b b',(((X ++ L).set (N + 1) b).set (N + 2) b')[N + 1]? = some b := fun L b b' => by
    rw [qB (by omega),qF (by simp; omega)]
   have x4 : ∀ L b b',(((X ++ L).set (N + 1) b).set (N + 2) b')[N + 2]? = some b' := fun L b b' => by
    rw [qF (by simp; omega)]
   simp only [f3,← eX,hLB]
   simp only [go_sem,x1,x2,x3,x4]
   have s3 : aG h X := by rw [eX]; exact s2.setR (by omega)
   exact ⟨(s3.app.setR (by omega)).setR (by omega),by rw [hfd]; rfl⟩
  | cons x r ih =>
   intro hr hfd H sH g0 g1 g2 g3 H2 args O2 hO kp hO1 hO2 hV
   subst hV
   have f0 := kp.at_ _ _ (by simp) g0
   have f1 := kp.at_ _ _ (by simp) g1
   have f2 := kp.at_ _ _ (by simp) g2
   have f3 := kp.at_ _ _ (by simp) g3
   have s2 : aG h H2 := ⟨Nat.le_trans sH.1 kp.le,fun i b e => kp.at_ _ _ (by simp) (sH.2 _ _ e)⟩
   have q3 := aM f3
   have f3' := f3
   rw [hLB,← eN] at f3'
   refine oU (psl := [9]) aV rfl aAs aAr qT.eq_1 R123_0b.eq_1 f3' rfl hps hca hcb fun hb2 ha2 => ?_
   obtain ⟨LY,hLY⟩ : ∃ b,b = Blk.loop 15 [(3,AV.ptr (Pl.own N 0)),(4,AV.ptr (Pl.own (N + 1) 0)),(5,AV.ptr (Pl.own (N + 2) 0)),(8,AV.fn (Fn.func 143) [] [AV.ptr p])] #[9] (bP (cS 123) [1,0,1,0,0]) (bP (cS 123) [1,0,1,0,1]) LoopState.busy none := ⟨_,rfl⟩
   have f3a : ∀ L,(H2 ++ L)[N + 3]? = _ := fun L => aC (k := L) f3'
   simp only [go_sem,f3a]
   rw [← hLY]
   obtain ⟨Y,eY⟩ : ∃ Y,Y = (H2 ++ [some (Blk.row [AV.int IntKind.i64 x.1,AV.int IntKind.i64 x.2])]).set (N + 3) (some LY) := ⟨_,rfl⟩
   have lY : Y.length = H2.length + 1 := by rw [eY]; simp
   have old : ∀ (i : Nat) b,i ≠ N + 3 → H2[i]? = some (some b) → Y[i]? = some (some b) := fun i b hi e => by
    rw [eY,qB (fun e => hi e.symm)]; exact aC e
   have y0 := old _ _ (by omega) f0
   have y1 := old _ _ (by omega) f1
   have y2 := old _ _ (by omega) f2
   have y3 : Y[N + 3]? = some (some LY) := by rw [eY,qF (by simp; omega)]
   have y4 : Y[H2.length]? = some (some (.row [AV.int IntKind.i64 x.1,AV.int IntKind.i64 x.2])) := by
    rw [eY,qB (by omega),qI (Nat.le_refl _),Nat.sub_self]; rfl
   have sY : aG h Y := ⟨by have := s2.1; omega,fun i b e => old i b (by have := aM e; omega) (s2.2 _ _ e)⟩
   have kY : cA C H2 Y := ⟨by omega,fun i b hi e => old i b (fun e => hi (by rw [eC,e]; simp)) e⟩
   rw [← eY]
   simp only [go_sem,y0,y4]
   refine aI (hf x (hr x (by simp)) Y sY) ?_
   cases hP : P x with
   | true =>
    have y5 : ∀ b,(Y.set (N + 1) b)[N + 2]? = some (some (.row [.bool false])) := fun b => by rw [qB (by omega)]; exact y2
    have y6 : ∀ b b',((Y.set (N + 1) b).set (N + 2) b')[N + 3]? = some (some LY) := fun b b' => by rw [qB (by omega),qB (by omega)]; exact y3
    simp only [go_sem,y1,y4,y5,y6]
    refine ⟨⟨_,_,by rw [hLY]⟩,?_⟩
    refine ⟨((kY.set (.inl (by rw [eC]; simp))).set (.inl (by rw [eC]; simp))).set (.inl (by rw [eC]; simp)),.inr fun H4 k4 => ?_⟩
    subst hO
    have z1 := k4.at_ (N + 1) (.row [AV.int IntKind.i64 x.1,AV.int IntKind.i64 x.2]) (by simp) (by rw [qB (by omega),qB (by omega),qF (by omega)])
    have z2 := k4.at_ (N + 2) (.row [AV.bool true]) (by simp) (by rw [qB (by omega),qF (by simp; omega)])
    have z3 := k4.at_ (N + 3) _ (by simp) (qF (by simp; omega))
    have z4 : (H4.set (N + 3) none)[N + 1]? = some (some (.row [AV.int IntKind.i64 x.1,AV.int IntKind.i64 x.2])) := by rw [qB (by omega)]; exact z1
    have z5 : (H4.set (N + 3) none)[N + 2]? = some (some (.row [AV.bool true])) := by rw [qB (by omega)]; exact z2
    have s4 : aG h H4 := ⟨by have := k4.le; simp at this; have := sY.1; omega,fun i b e => k4.at_ _ _ (by simp) (by
     have := aM e
     rw [qB (by omega),qB (by omega),qB (by omega)]; exact sY.2 _ _ e)⟩
    simp only [go_sem,z3,z4,z5]
    exact ⟨s4.setR (by omega),by rw [hfd,List.find?_cons_of_pos hP]; rfl⟩
   | false =>
    simp only [go_sem,y3]
    refine ⟨⟨_,_,by rw [hLY]⟩,?_⟩
    refine ⟨kY.set (.inl (by rw [eC]; simp)),.inl ?_⟩
    subst hO
    refine ih (fun d hd => hr d (by simp [hd])) (by rw [hfd,List.find?_cons_of_neg (by simp [hP])]) _ (sY.setR (by omega)) ?_ ?_ ?_ ?_
    · rw [qB (by omega)]; exact y0
    · rw [qB (by omega)]; exact y1
    · rw [qB (by omega)]; exact y2
    · rw [qF (by omega),hLB,← eN]
 refine claim _ (fun _ hd => hd) rfl G0 (eG0 ▸ aG.refl.app) ?_ ?_ ?_ ?_
 all_goals
  rw [eG0,eN,qI (by omega)]; simp
def dN (o : Option ((Int × Int) × (Int × Int))) : List AV := match o with
 | some (f,d) => [.bool false,.agg [.int .i64 f.1,.int .i64 f.2,.int .i64 d.1,.int .i64 d.2]]
 | none => [.bool true,.agg [.int .i64 0,.int .i64 0,.int .i64 0,.int .i64 0]]
theorem aFp {l : List aD} (hl : l.all aX = true) : ∀ d ∈ fN l,Bd 100 d := fun d hd => by
 rcases List.mem_append.1 hd with hd | hd
 · obtain ⟨r,hr,hd⟩ := List.mem_flatMap.1 hd
   have hR := List.all_eq_true.1 hl r hr
   simp only [aX,inB,Bool.and_eq_true,decide_eq_true_eq] at hR
   simp only [iU,List.mem_cons,List.not_mem_nil,or_false] at hd
   unfold Bd
   rcases hd with rfl | rfl | rfl | rfl <;> simp only <;> omega
 · simp only [dV,List.mem_cons,List.not_mem_nil,or_false] at hd
   unfold Bd
   rcases hd with rfl | rfl | rfl | rfl <;> simp only <;> omega
theorem vB {w : bG} (hw : fI w = true) : ∀ f ∈ dP w,Bd 1000000 f := fun f hf => by
 simp only [fI,eM,Bool.and_eq_true,decide_eq_true_eq] at hw
 simp only [dP,List.mem_cons,List.not_mem_nil,or_false] at hf
 unfold Bd
 rcases hf with rfl | rfl | rfl | rfl <;> simp only <;> omega
theorem pc_bdd (l : List (Int × Int)) (N : Nat) : AV.bdds N (l.map pC).flatten := aR.2 fun x hx => by
 obtain ⟨c,hc,hx⟩ := List.mem_flatten.1 hx
 obtain ⟨y,_,rfl⟩ := List.mem_map.1 hc
 simp only [pC,List.mem_cons,List.not_mem_nil,or_false] at hx
 rcases hx with rfl | rfl <;> trivial
theorem pT (w : bG) {v : AV} {l : List aD} (hv : Sl w0 h 3 v (l.map aD.c)) (hl : l.all aX = true) (hn : l.length ≤ 20) (hw : fI w = true) :
 bA Tryz.prog w0 80 [.agg w.c,v] h (.tup (dN (bK l w))) h := by
 have hbv : ∀ N,(AV.tup (dN (bK l w))).bdd N := fun N => by
  unfold dN; split <;> simp [AV.bdd,AV.bdds]
 refine dT (hbv _) (bI aV wH aBg aBf (qE rfl) fun hb ha => bC ?_)
 have o := Sl.one hv
 have vb := hv.bdd (Nat.le_refl _)
 simp only [go_sem,mf80,o.1,o.2]
 refine eL (S := Nat) (F := fun i => [(3,.ptr (.own (h.length + 1) 0)),(5,.ptr (.own (h.length + 2) 0)),(38,.agg ((dP w).map pC).flatten),(39,.int .i64 i)])
  (H := fun _ => h ++ [some (.row w.c),some (.row [v]),some (.row [.int .i64 0,.int .i64 0,.int .i64 0,.int .i64 0])]) (meas := fun i => 4 - i)
  (Inv := fun i => i ≤ 4 ∧ bK l w = ((dP w).drop i).findSome? fun f => (fU l f).map fun d => (f,d)) 0 ⟨Nat.zero_le _,rfl⟩ rfl rfl ?_
 rintro i ⟨hi,hH⟩ ih
 refine bF aV aFv [3,5,38,39] L80_0.eq_1 ?_
 by_cases hi4 : i < 4
 · have e1 : (i : Int) < 4 := by omega
   have hcl : i < (dP w).length := hi4
   have hx := aA7 hcl
   rw [List.drop_eq_getElem_cons hcl,List.findSome?_cons] at hH
   obtain ⟨f,hf⟩ : ∃ f,f = (dP w)[i]'hcl := ⟨_,rfl⟩
   have hfb : Bd 1000000 f := hf ▸ vB hw _ (qG hcl)
   rw [← hf] at hx hH
   simp only [go_sem,e1,hi4,hx]
   refine aZ (ACall.vc (first := []) (args := [v]) (dirs_c o.2)) ?_
   rintro _ _ ⟨rfl,rfl⟩
   simp only [go_sem]
   obtain ⟨X,eX⟩ : ∃ X,X = h ++ [some (.row w.c),some (.row [v]),some (.row [.int .i64 0,.int .i64 0,.int .i64 0,.int .i64 0]),some (.row (pC f)),some (.row [v])] := ⟨_,rfl⟩
   have sX : aG h X := eX ▸ aG.refl.app
   have x1 : X[h.length + 1]? = some (some (.row [v])) := by rw [eX,qI (by omega)]; simp
   have x3 : X[h.length + 3]? = some (some (.row (pC f))) := by rw [eX,qI (by omega)]; simp
   have x4 : X[h.length + 4]? = some (some (.row [v])) := by rw [eX,qI (by omega)]; simp
   have hfirst := pV (w0 := w0) (h := X) (p := .own (h.length + 4) 0) (fv := .fn (.func 125) [] [.ptr (.own (h.length + 3) 0),.ptr (.own (h.length + 1) 0)]) (oD l f)
    (by simp [rd,x4]) (hv.sub sX) hl hn rfl fun d hd H sH => bA.vc (P := Tryz.prog) (first := []) (capt := [.ptr (.own (h.length + 3) 0),.ptr (.own (h.length + 1) 0)]) (aFk d f (by
     have := aFp hl d hd; unfold Bd at *; omega) hfb (by simp [rdn,sH.2 _ _ x3,pC]) (by simp [rd,sH.2 _ _ x1]) (hv.sub (sX.trans sH)) hl hn)
   rw [eX] at hfirst
   refine aI hfirst.v ?_
   rw [show (fN l).find? (oD l f) = fU l f from rfl]
   cases hff : fU l f with
   | some d =>
    rw [hff] at hH
    simp only [go_sem,kS]
    exact ⟨aG.refl.app,by rw [hH]; rfl⟩
   | none =>
    rw [hff] at hH
    simp only [go_sem,kS]
    refine ⟨(by unfold I64; omega),iI 3 hb (by simp [dR,dS,eU,eV,gG,eO,AV.bdds,AV.bdd,Pl.bdd,cV]; exact AV.bdd_mono (by omega) _ vb) (by simp [dR,dS,eU,eV,gG,eO,AV.bdds,AV.bdd,Pl.bdd,cV]; exact pc_bdd _ _) ?_⟩
    exact ih (i + 1) ⟨by omega,hH⟩ (by omega)
 · have e1 : ¬ (i : Int) < 4 := by omega
   obtain rfl : i = 4 := by omega
   simp only [go_sem,e1]
   rw [show (dP w).drop 4 = [] from rfl] at hH
   rw [hH]
   exact ⟨aG.refl.app,rfl⟩
theorem aAV (r : aD) : bA Tryz.prog w0 122 [.agg r.c] h (.bool (aX r)) h := by
 refine aT aV sK xF xE (qE rfl) (by simp [AV.bdd,AV.bdds]) fun hb ha => bC ?_
 simp only [go_sem,mf122]
 refine aI (in_c r.x (-100) 100).v ?_
 cases e1 : inB r.x (-100) 100 with
 | false => simp only [go_sem]; simp [aX,e1]
 | true =>
 simp only [go_sem]
 refine aI (in_c r.y (-100) 100).v ?_
 cases e2 : inB r.y (-100) 100 with
 | false => simp only [go_sem]; simp [aX,e2]
 | true =>
 by_cases q1 : r.x = 0
 · by_cases q2 : r.y = 0
   · simp only [go_sem,q1,q2]
     simp [aX,q1,q2]
   · simp only [go_sem,q1,q2]
     refine aI (in_c r.s 0 1000000).v ?_
     simp only [go_sem]
     rw [q1] at e1
     simp [aX,e1,e2,q1,q2]
 · simp only [go_sem,q1]
   refine aI (in_c r.s 0 1000000).v ?_
   simp only [go_sem]
   simp [aX,e1,e2,q1]
def bM (l : List aD) (w : bG) : Int := if 8 < l.length then 3 else cond (l.all aX && fI w) 0 2
theorem pF (w : bG) {v : AV} {l : List aD} (hv : Sl w0 h 3 v (l.map aD.c)) : bA Tryz.prog w0 79 [v,.agg w.c] h (.int .i64 (bM l w)) h := by
 refine aT aV wI aBi aBh (qE rfl) (by simp [AV.bdd,AV.bdds]) fun hb ha => bC ?_
 have hlen : jE v = some (.int .i64 l.length) := by have := hv.use.1; rwa [List.length_map] at this
 by_cases hL : 8 < l.length
 · have e1 : (l.length : Int) > 8 := by omega
   simp only [go_sem,mf79,hlen,e1]
   rw [bM,if_pos hL]
 have e1 : ¬ (l.length : Int) > 8 := by omega
 simp only [go_sem,mf79,hlen,e1]
 have hall := nQ (w0 := w0) (h := h ++ [some (.row w.c)]) (l.map aD.c) v (.fn (.func 122) [] []) (fun j => aX (l.getD j ⟨0,0,0⟩)) hv.app (fun c hc => by
  obtain ⟨z,_,rfl⟩ := List.mem_map.1 hc; rfl) (by rw [List.length_map]; omega) (fun j c hc _ L => by
  rw [List.getElem?_map] at hc
  obtain ⟨z,hz,rfl⟩ := qD.1 hc
  rw [aCb hz]
  exact bA.vc (P := Tryz.prog) (first := []) (capt := []) (aAV z))
 rw [List.length_map,mJ] at hall
 refine aI hall.v ?_
 rw [bM,if_neg hL]
 cases c1 : l.all aX with
 | false => simp only [go_sem]; simp
 | true =>
 simp only [go_sem]
 have s1 : ∀ {H : aA},bA Tryz.prog w0 115 [.agg [.int .i64 w.xl,.int .i64 w.xh],.int .i64 (-1000000),.int .i64 1000000] H (.bool (eM w.xl w.xh)) H := aAD ..
 have s2 : ∀ {H : aA},bA Tryz.prog w0 115 [.agg [.int .i64 w.yl,.int .i64 w.yh],.int .i64 (-1000000),.int .i64 1000000] H (.bool (eM w.yl w.yh)) H := aAD ..
 refine aI s1.v ?_
 simp only [fI,Bool.true_and]
 cases c2 : eM w.xl w.xh with
 | false => simp only [go_sem]; simp
 | true =>
 simp only [go_sem]
 refine aI s2.v ?_
 cases c3 : eM w.yl w.yh with
 | false => simp only [go_sem]; simp
 | true => simp only [go_sem]; simp
def oR (l : List aD) (w : bG) : AV := if bM l w = 0 then .tup (dN (bK l w) ++ [.int .i64 0]) else .tup [.bool false,.agg [.int .i64 0,.int .i64 0,.int .i64 0,.int .i64 0],.int .i64 (bM l w)]
theorem Hold_c (w : bG) {v : AV} {l : List aD} (hv : Sl w0 h 3 v (l.map aD.c)) : bA Tryz.prog w0 28 [v,.agg w.c] h (oR l w) h := by
 have hbv : ∀ N,(oR l w).bdd N := fun N => by
  unfold oR dN; split
  · split <;> simp [AV.bdd,AV.bdds]
  · simp [AV.bdd,AV.bdds]
 refine dT (hbv _) (bI aV wJ aBk aBj (qE rfl) fun hb ha => bC ?_)
 simp only [go_sem,mf28]
 refine aI (pF w hv.app).v ?_
 by_cases e : bM l w = 0
 · have hR : l.length ≤ 8 ∧ l.all aX = true ∧ fI w = true := by
    unfold bM at e
    split at e
    · omega
    · cases h2 : l.all aX && fI w with
      | false => rw [h2] at e; simp at e
      | true =>
       rw [Bool.and_eq_true] at h2
       exact ⟨by omega,h2⟩
   simp only [go_sem,e]
   refine aI (pT w hv.app hR.2.1 (by omega) hR.2.2).v ?_
   rw [oR,if_pos e]
   cases bK l w with
   | none =>
    simp only [go_sem,dN,List.cons_append,List.nil_append]
    exact aG.refl.app
   | some x =>
    simp only [go_sem,dN,List.cons_append,List.nil_append]
    exact aG.refl.app
 · simp only [go_sem,e]
   rw [oR,if_neg e]
   exact ⟨aG.refl.app,rfl⟩
end Go.Proofs.Ab
namespace Go.Proofs.Ab
open Go Go.Proofs
variable {w : World} {h : aA} {cs : List Value}
theorem int_of {v : Value} (g : Gd w (.int .nil) [v]) : ∃ n : Int,inj v = .int .i64 n ∧ I64 n := by
 obtain ⟨n,_,e,h,rfl⟩ := g
 cases e; exact ⟨n,rfl,h⟩
theorem aE9 {v : Value} (g : Gd w (.sl (.int .nil) .nil) [v]) : ∃ l : List Int,SlI w h (inj v) l ∧ l.length ≤ 9223372036854775807 := by
 obtain ⟨_,_,e,h,rfl⟩ := g
 cases e; exact aFg h
def uS : Rw := .int (.int (.int (.int .nil)))
theorem aFh (g : Gd w uS cs) : ∃ a b c d : Int,cs.map inj = [.int .i64 a,.int .i64 b,.int .i64 c,.int .i64 d] ∧ I64 a ∧ I64 b ∧ I64 c ∧ I64 d := by
 obtain ⟨a,_,rfl,h1,b,_,rfl,h2,c,_,rfl,h3,d,_,rfl,h4,rfl⟩ := g
 exact ⟨a,b,c,d,rfl,h1,h2,h3,h4⟩
def pR : Rw := .int (.int (.int .nil))
theorem aFi (g : Gd w pR cs) : ∃ a b c : Int,cs.map inj = [.int .i64 a,.int .i64 b,.int .i64 c] ∧ I64 a ∧ I64 b ∧ I64 c := by
 obtain ⟨a,_,rfl,h1,b,_,rfl,h2,c,_,rfl,h3,rfl⟩ := g
 exact ⟨a,b,c,rfl,h1,h2,h3⟩
theorem aC9 (g : Gd w pR cs) : ∃ r : aD,cs.map inj = r.c ∧ I64 r.s := by
 obtain ⟨a,b,c,e,_,_,h3⟩ := aFi g
 exact ⟨⟨a,b,c⟩,e,h3⟩
theorem aCU (g : Gd w uS cs) : ∃ r : bG,cs.map inj = r.c ∧ True := by
 obtain ⟨a,b,c,d,e,_⟩ := aFh g
 exact ⟨⟨a,b,c,d⟩,e,trivial⟩
theorem aAU {v : Value} (g : Gd w (.sl pR .nil) [v]) : ∃ l : List aD,Sl w h 3 (inj v) (l.map aD.c) ∧ l.length ≤ 9223372036854775807 := by
 obtain ⟨_,_,e,h,rfl⟩ := g
 cases e
 exact rJ aD.c rfl h fun _ g => by
  obtain ⟨r,e,_⟩ := aC9 g
  exact ⟨r,e⟩
end Go.Proofs.Ab

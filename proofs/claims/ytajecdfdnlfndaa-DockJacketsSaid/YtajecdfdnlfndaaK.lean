/- The own layer under the proofs of this seat, part K: what calls of the program come to on an abstract heap. No condition. -/
import Derived.Test.YtajecdfdnlfndaaJ
import Derived.Test.YtajecdfdnlfndaaG
set_option linter.unusedSimpArgs false
set_option linter.unusedVariables false
namespace Go.Proofs.Ab
open Go Go.Proofs
variable {w0 : World} {h : aA}
attribute [local irreducible] ACall aS cJ bM dL rvC lp rg dr ex un rv
theorem in_c (x lo hi : Int) : bM Try.prog w0 38 [.int .i64 x,.int .i64 lo,.int .i64 hi] h (.bool (inB x lo hi)) h := by
 refine bG bI rW wU wT (qE rfl) (by simp [AV.bdd,AV.bdds]) fun hb ha => bQ ?_
 simp only [go_sem,mf38]
 exact ⟨fun a => by simp [inB,a],fun a => by simp [inB,a]⟩
theorem kI (x lo hi : Int) : bM Try.prog w0 33 [.int .i64 x,.int .i64 lo,.int .i64 hi] h (.bool (inB x lo hi)) h := by
 refine bG bI aAS mf33_b mf33_g (qE rfl) (by simp [AV.bdd,AV.bdds]) fun hb ha => bQ ?_
 simp only [go_sem,mf33]
 exact ⟨fun a => by simp [inB,a],fun a => by simp [inB,a]⟩
theorem eO {α : Type} {l : List α} (d : α) {p : α → Bool} : (List.range l.length).all (fun j => p (l.getD j d)) = l.all p := by
 rw [Bool.eq_iff_iff,List.all_eq_true,List.all_eq_true]
 constructor
 · intro x a ha
   obtain ⟨i,hi,rfl⟩ := List.getElem_of_mem ha
   have := x i (List.mem_range.2 hi)
   rwa [jZ hi] at this
 · intro x j hj
   have hj := List.mem_range.1 hj
   rw [jZ hj]
   exact x _ (qG hj)
theorem oH {α : Type} {l : List α} {d x : α} {j : Nat} (e : l[j]? = some x) : l.getD j d = x := by simp [List.getD_eq_getElem?_getD,e]
theorem sH {es : Nat} : ∀ {rows : List (List AV)},(∀ c ∈ rows,c.length = es) → ∀ {j : Nat} {c : List AV},rows[j]? = some c → j * es + es ≤ rows.flatten.length ∧ (rows.flatten.drop (j * es)).take es = c ∧ ∀ (o : Nat) x,c[o]? = some x → rows.flatten[j * es + o]? = some x
 | [],_,j,c,hc => by simp at hc
 | r :: rows,h,0,c,hc => by
  simp only [List.getElem?_cons_zero,Option.some.injEq] at hc; subst hc
  have hl := h r (by simp)
  subst hl
  refine ⟨by simp,by simp,fun o x hx => ?_⟩
  rw [Nat.zero_mul,Nat.zero_add,List.flatten_cons,qH (aT hx)]; exact hx
 | r :: rows,h,j + 1,c,hc => by
  have hl := h r (by simp)
  obtain ⟨a,b,e⟩ := sH (rows := rows) (es := es) (fun x hx => h x (by simp [hx])) (j := j) (by simpa using hc)
  have e1 : (j + 1) * es = r.length + j * es := by rw [Nat.add_mul,hl]; omega
  refine ⟨by rw [e1,List.flatten_cons,List.length_append]; omega,?_,fun o x hx => ?_⟩
  · rw [e1,List.flatten_cons,← List.drop_drop,List.drop_left]; exact b
  · rw [e1,List.flatten_cons,qI (by omega)]
    have := e o x hx
    rwa [show r.length + j * es + o - r.length = j * es + o by omega]
theorem oL {es : Nat} : ∀ {rows : List (List AV)},(∀ c ∈ rows,c.length = es) → ∀ {j : Nat} {x : List AV},j < rows.length → x.length = es → rows.flatten.take (j * es) ++ (x ++ rows.flatten.drop (j * es + es)) = (rows.set j x).flatten
 | [],_,j,c,hc,_ => by simp at hc
 | r :: rows,h,0,x,_,hx => by
  have hl := h r (by simp)
  simp [← hl]
 | r :: rows,h,j + 1,x,hj,hx => by
  have hl := h r (by simp)
  have ih := oL (rows := rows) (es := es) (fun x hx => h x (by simp [hx])) (j := j) (x := x) (by simpa using hj) hx
  have e1 : (j + 1) * es = r.length + j * es := by rw [Nat.add_mul,hl]; omega
  rw [e1,List.set_cons_succ,List.flatten_cons,List.flatten_cons,← ih,show r.length + j * es + es = r.length + (j * es + es) by omega,← List.drop_drop,List.drop_left,List.take_length_add_append,List.append_assoc]
theorem wA {es i n j : Nat} {f : Bool} (h : j < n) : dN es (.sl (.own i 0) n es f) (some j) = some (.ptr (.own i (j * es))) := by simp [dN,eX,Pl.add,h]
theorem nat_ix {n : Nat} : (if (0 : Int) ≤ (n : Int) then some (n : Int).toNat else none) = some n := by rw [if_pos (by omega),Int.toNat_natCast]
theorem fI {n : Int} (h : 0 ≤ n) : (if (0 : Int) ≤ n then some n.toNat else none) = some n.toNat := if_pos h
theorem lD (rows : List (List AV)) (v fv : AV) (p : Nat → Bool) (hv : Sl w0 h 4 v rows) (ho : ∀ c ∈ rows,c.all one = true) (hn : rows.length < 1000000)
 (hf : ∀ (j : Nat) c,rows[j]? = some c → (∀ i,i < j → p i = true) → ∀ L,dL Try.prog w0 fv [.agg c] (h ++ L) (.bool (p j)) (h ++ L)) : bM Try.prog w0 36 [v,fv] h (.bool ((List.range rows.length).all p)) h := by
 refine bG bI rY wY wX (qE rfl) (by simp [AV.bdd,AV.bdds]) fun hb ha => bQ ?_
 have hfb : fv.bdd h.length := by simp only [AV.bdds] at ha; exact ha.2.1
 obtain ⟨hlen,q,hix,hrow,_⟩ := hv.use
 have vb := hv.bdd (Nat.le_refl _)
 simp only [go_sem,mf36,hlen]
 refine iR (fun j => [(1,fv),(7,v),(8,.int .i64 rows.length),(9,.int .i64 j)]) (fun j => p j = true) rows.length rfl (fun j hj hall ih => ?_) (fun hall => ?_)
 · refine bE bI sQ [1,7,8,9] L36_0.eq_1 ?_
   have e1 := hix j hj
   have e3 : (j : Int) < rows.length := by omega
   obtain ⟨c,hc⟩ : ∃ c,rows[j]? = some c := ⟨_,qA hj⟩
   have hl : c.length = 4 := (rL (hrow j _ hc)).1
   have e2 : ∀ L,rdn w0 (h ++ L) (q.add (j * 4)) 4 = some c := fun L => dR (hrow j _ hc)
   have ho := ho c (List.mem_of_getElem? hc)
   obtain ⟨x0,x1,x2,x3,rfl⟩ : ∃ x0 x1 x2 x3,c = [x0,x1,x2,x3] := by
    match c,hl with
    | [x0,x1,x2,x3],_ => exact ⟨x0,x1,x2,x3,rfl⟩
   simp only [go_sem,e1,e2,e3,ho]
   refine aV (by simpa using hf j _ hc hall [some (.row [x0,x1,x2,x3])]) ?_
   simp only [go_sem]
   refine ⟨fun e => ?_,fun e => ⟨(by unfold I64; omega),?_⟩⟩
   · have : (List.range rows.length).all p = false := by
      rw [List.all_eq_false]; exact ⟨j,List.mem_range.2 hj,by simp [e]⟩
     rw [this]
   · refine jV 0 hb (by simp [HBs]) (by simp [eM,eN,fY,fZ,jD,fR,AV.bdds,AV.bdd,Pl.bdd,dU]; exact ⟨hfb,vb⟩) ?_
     simpa using ih e
 · refine bE bI sQ [1,7,8,9] L36_0.eq_1 ?_
   have e3 : ¬ (rows.length : Int) < rows.length := by omega
   simp only [go_sem,e3]
   have : (List.range rows.length).all p = true := by rw [List.all_eq_true]; exact fun x hx => hall x (List.mem_range.1 hx)
   rw [this]
theorem yF (rows : List (List AV)) (v fv : AV) (p : Nat → Bool) (hv : Sl w0 h 1 v rows) (ho : ∀ c ∈ rows,c.all one = true) (hn : rows.length < 1000000)
 (hf : ∀ (j : Nat) c,rows[j]? = some c → (∀ i,i < j → p i = true) → ∀ L,dL Try.prog w0 fv [c.headD .undef] (h ++ L) (.bool (p j)) (h ++ L)) : bM Try.prog w0 67 [v,fv] h (.bool ((List.range rows.length).all p)) h := by
 refine bG bI rT wO wN (qE rfl) (by simp [AV.bdd,AV.bdds]) fun hb ha => bQ ?_
 have hfb : fv.bdd h.length := by simp only [AV.bdds] at ha; exact ha.2.1
 obtain ⟨hlen,q,hix,hrow,_⟩ := hv.use
 have vb := hv.bdd (Nat.le_refl _)
 simp only [go_sem,mf67,hlen]
 refine iR (fun j => [(1,fv),(7,v),(8,.int .i64 rows.length),(9,.int .i64 j)]) (fun j => p j = true) rows.length rfl (fun j hj hall ih => ?_) (fun hall => ?_)
 · refine bE bI sP [1,7,8,9] L67_0.eq_1 ?_
   have e1 := hix j hj
   have e3 : (j : Int) < rows.length := by omega
   obtain ⟨c,hc⟩ : ∃ c,rows[j]? = some c := ⟨_,qA hj⟩
   have hl : c.length = 1 := (rL (hrow j _ hc)).1
   have e2 : ∀ L,rdn w0 (h ++ L) (q.add (j * 1)) 1 = some c := fun L => dR (hrow j _ hc)
   have ho := ho c (List.mem_of_getElem? hc)
   obtain ⟨x0,rfl⟩ : ∃ x0,c = [x0] := by
    match c,hl with
    | [x0],_ => exact ⟨x0,rfl⟩
   have e4 : ∀ L,rd w0 (h ++ L) (q.add (j * 1)) = some x0 := fun L => rd_0 (e2 L) rfl
   simp only [go_sem,e1,e4,e3,ho]
   refine aV (by simpa using hf j _ hc hall []) ?_
   simp only [go_sem]
   refine ⟨fun e => ?_,fun e => ⟨(by unfold I64; omega),?_⟩⟩
   · have : (List.range rows.length).all p = false := by
      rw [List.all_eq_false]; exact ⟨j,List.mem_range.2 hj,by simp [e]⟩
     rw [this]
     exact ⟨rfl,[],(List.append_nil _).symm⟩
   · simpa using ih e
 · refine bE bI sP [1,7,8,9] L67_0.eq_1 ?_
   have e3 : ¬ (rows.length : Int) < rows.length := by omega
   simp only [go_sem,e3]
   have : (List.range rows.length).all p = true := by rw [List.all_eq_true]; exact fun x hx => hall x (List.mem_range.1 hx)
   rw [this]
theorem qJ (x lo : Int) {p : Pl} (hp : rd w0 h p = some (.int .i64 lo)) : bM Try.prog w0 68 [.int .i64 x,.ptr p] h (.bool (inB x lo 100000)) h := by
 refine bG bI rS wM wL (qE rfl) (by simp [AV.bdd,AV.bdds]) fun hb ha => bQ ?_
 have e : ∀ L,rd w0 (h ++ L) p = some (.int .i64 lo) := fun L => fC hp
 simp only [go_sem,mf68,e]
 refine aV (in_c x lo 100000).v ?_
 simp only [go_sem]
def bV (lo : Int) (l : List Int) : Bool := l.all fun x => inB x lo 100000
theorem mB (lo : Int) {v : AV} {l : List Int} (hv : SlI w0 h v l) (hn : l.length < 1000000) : bM Try.prog w0 39 [.int .i64 lo,v] h (.bool (bV lo l)) h := by
 refine bG bI rV wS wR (qE rfl) (by simp [AV.bdd,AV.bdds]) fun hb ha => bQ ?_
 simp only [go_sem,mf39]
 have := yF (w0 := w0) (h := h ++ [some (.row [.int .i64 lo])]) (l.map fun z => [.int .i64 z]) v (.fn (.func 68) [] [.ptr (.own h.length 0)]) (fun j => inB (l.getD j 0) lo 100000) (hv.app) (fun c hc => by
  obtain ⟨z,_,rfl⟩ := List.mem_map.1 hc; rfl) (by simpa using hn) (fun j c hc _ L => by
  rw [List.getElem?_map] at hc
  obtain ⟨z,hz,rfl⟩ := qD.1 hc
  have hj := aT hz
  have : l.getD j 0 = z := by rw [jZ hj]; rw [qA hj] at hz; exact Option.some.inj hz
  rw [this]
  have c1 := qJ (w0 := w0) (h := h ++ [some (.row [.int .i64 lo])] ++ L) (p := .own h.length 0) z lo (by rw [List.append_assoc]; simp [rd])
  exact bM.vc (P := Try.prog) (first := []) (capt := [.ptr (.own h.length 0)]) c1)
 rw [List.length_map,eO 0 (p := fun x => inB x lo 100000)] at this
 refine aV this.v ?_
 simp only [go_sem]
 rfl
structure dC where
 dock : Int
 plane : Int
 people : Int
 jackets : Int
@[go_sem] def dC.c (s : dC) : List AV := [.int .i64 s.dock,.int .i64 s.plane,.int .i64 s.people,.int .i64 s.jackets]
@[simp] theorem dC.c_bdd (N : Nat) (s : dC) : AV.bdds N s.c := by simp [dC.c,AV.bdds,AV.bdd]
def eA (nd planes : Int) (e : dC) : Bool := inB e.dock 0 (nd - 1) && (inB e.plane 0 (planes - 1) && bV (-100000) [e.people,e.jackets])
theorem xU (e : dC) {dv : AV} {nd : Nat} {planes : Int} {p q : Pl} (hp : rd w0 h p = some dv) (hd : kP dv = some (.int .i64 nd)) (hq : rd w0 h q = some (.int .i64 planes)) (hn : nd < 1000000) :
 bM Try.prog w0 37 [.agg e.c,.ptr p,.ptr q] h (.bool (eA nd (wi (planes - 1) + 1) e)) h := by
 refine bG bI rX wW wV (qE rfl) (by simp [AV.bdd,AV.bdds]) fun hb ha => bQ ?_
 have e1 : ∀ L,rd w0 (h ++ L) p = some dv := fun L => fC hp
 have e2 : ∀ L,rd w0 (h ++ L) q = some (.int .i64 planes) := fun L => fC hq
 have w1 : wi ((nd : Int) - 1) = nd - 1 := hO (by unfold I64; omega)
 have e3 : wi (planes - 1) + 1 - 1 = wi (planes - 1) := by omega
 simp only [go_sem,mf37,e1,e2,hd,w1]
 refine aV (in_c e.dock 0 (nd - 1)).v ?_
 simp only [go_sem,e1,e2,hd]
 refine ⟨fun a => ?_,fun a => by simp [eA,a]⟩
 refine aV (in_c e.plane 0 (wi (planes - 1))).v ?_
 simp only [go_sem]
 refine ⟨fun b => ?_,fun b => by simp [eA,a,b,e3]⟩
 have hs : SlI w0 (h ++ [some (.row [.int .i64 e.dock,.int .i64 e.plane,.int .i64 e.people,.int .i64 e.jackets]),some (.row [.int .i64 e.people,.int .i64 e.jackets])]) (.sl (.own (h.length + 1) 0) 2 1 true) [e.people,e.jackets] := by
  refine jC (rows := [[.int .i64 e.people],[.int .i64 e.jackets]]) ?_ (fun c hc => ?_)
  · rw [qI (by omega)]; simp
  · simp at hc; rcases hc with rfl | rfl <;> rfl
 refine aV (mB (-100000) hs (by simp)).v ?_
 simp only [go_sem]
 simp [eA,a,b,e3]
end Go.Proofs.Ab
namespace Go.Proofs.Ab
open Go Go.Proofs
structure cC where
 people : Int
 jackets : Int
@[go_sem] def cC.c (s : cC) : List AV := [.int .i64 s.people,.int .i64 s.jackets]
def gI (b : List cC) (i : Int) : cC := b.getD i.toNat ⟨0,0⟩
def kM (b : List cC) (e : dC) : cC := ⟨(gI b e.plane).people + e.people,(gI b e.plane).jackets + e.jackets⟩
def qS (b : List cC) (l : List Int) (e : dC) : Bool := decide ((kM b e).people < 0) || (decide ((kM b e).jackets < 0) || (decide (l.getD e.dock.toNat 0 < e.jackets) || decide ((kM b e).people ≠ (kM b e).jackets)))
def cgo : List dC → Int → List cC → List Int → Int × List cC × List Int
 | [],_,b,l => (-1,b,l)
 | e :: r,i,b,l => if qS b l e then (i,b,l) else cgo r (i + 1) (b.set e.plane.toNat (kM b e)) (l.set e.dock.toNat (l.getD e.dock.toNat 0 - e.jackets))
def iZ (docks : List Int) (planes : Nat) (evs : List dC) : Int × List cC × List Int := cgo evs 0 (List.replicate planes ⟨0,0⟩) docks
def bL (docks : List Int) (planes : Int) (evs : List dC) : Bool := evs.all (eA docks.length (wi (planes - 1) + 1)) && (inB docks.length 1 6 && (bV 0 docks && inB planes 0 6))
theorem kW {docks : List Int} {planes : Int} {evs : List dC} (h : bL docks planes evs = true) : ∃ p : Nat,planes = p ∧ p ≤ 6 ∧ (∀ e ∈ evs,eA docks.length p e = true) ∧ (1 ≤ docks.length ∧ docks.length ≤ 6) ∧ ∀ x ∈ docks,0 ≤ x ∧ x ≤ 100000 := by
 simp only [bL,Bool.and_eq_true,List.all_eq_true,bV,inB,decide_eq_true_eq] at h
 obtain ⟨h1,h2,h3,h4⟩ := h
 obtain ⟨p,rfl⟩ : ∃ p : Nat,planes = p := ⟨planes.toNat,by omega⟩
 rw [hO (by unfold I64; omega),Int.sub_add_cancel] at h1
 exact ⟨p,rfl,by omega,h1,by omega,h3⟩
end Go.Proofs.Ab
namespace Go.Proofs.Ab
open Go Go.Proofs
variable {w0 : World} {h : aA}
attribute [local irreducible] ACall aS cJ bM dL rvC lp rg dr ex un rv
theorem aBr {v : AV} {l : List Int} (hv : SlI w0 h v l) (hn : l.length < 1000000) (hne : l ≠ []) : ACall Try.prog w0 40 [v] h fun y H => y = .sl (.own (h.length + 1) 0) l.length 1 false ∧ H = h ++ [some (.row []),some (.row (iis l))] := by
 refine cU bI rU wQ wP (qE rfl) fun hb ha => bQ ?_
 have hv' := hv
 rcases hv with ⟨h1,h2⟩ | ⟨q,f,⟨es',h1,h4⟩,h2,h3⟩
 · simp at h2; exact absurd h2 hne
 rw [List.length_map] at h1
 subst h1
 simp only [go_sem,mf40]
 have hflat : (l.map fun z => [AV.int .i64 z]).flatten = iis l := by
  clear hv' h3 ha hne hn
  induction l with
  | nil => rfl
  | cons x r ih => simp only [List.map_cons,List.flatten_cons,ih]; rfl
 have hall : rdn w0 h q (l.length * 1) = some (iis l) := by
  have := Sl.all (w0 := w0) (H := h) (es := 1) (p := q) (rows := l.map fun z => [AV.int .i64 z]) (by simpa using hne) h3
  rwa [List.length_map,hflat] at this
 have hl0 : l.length ≠ 0 := fun e => hne (List.length_eq_zero_iff.1 e)
 have hone : (iis l).all one = true := List.all_eq_true.2 fun x hx => by
  simp only [iis,List.mem_map] at hx
  obtain ⟨z,_,rfl⟩ := hx; rfl
 have hap : dT w0 (h ++ [some (.row [])]) 1 8 (.sl (.own h.length 0) 0 1 true) (.sl q l.length es' f) = some (.sl (.own (h.length + 1) 0) l.length 1 false,h ++ [some (.row []),some (.row (iis l))]) := by
  have r1 : rdn w0 (h ++ [some (.row [])]) q (l.length * 1) = some (iis l) := dR hall
  have r2 : rdn w0 (h ++ [some (.row [])]) (.own h.length 0) (0 * 1) = some [] := by simp [rdn]
  simp only [dT,eZ,h4,if_true,r1,Option.map_some,Option.bind_some]
  rw [if_neg hl0,if_pos ⟨by simp [eX],by omega,hone⟩,r2]
  simp [eH]
 rw [hap]
 have hbb : ∀ N,AV.bdds N (iis l) := fun N => aK.2 fun x hx => by
  simp only [iis,List.mem_map] at hx
  obtain ⟨z,_,rfl⟩ := hx; exact trivial
 have hbh : HB (h ++ [some (.row []),some (.row (iis l))]) := qW hb (by
  intro b hb
  simp only [List.mem_cons,Option.some.injEq,List.not_mem_nil,or_false] at hb
  rcases hb with rfl | rfl
  · exact aK.1 trivial
  · exact aK.1 (hbb _))
 simp only [go_sem]
 exact ⟨_,[],(List.append_nil _).symm,by simp,hbh,by simp [AV.bdd,Pl.bdd],rfl⟩
end Go.Proofs.Ab
namespace Go.Proofs.Ab
open Go Go.Proofs
theorem rE (l : List Int) (i : Nat) (x : Int) (hi : i < l.length) : (l.set i x).sum = l.sum - l.getD i 0 + x := by
 induction l generalizing i with
 | nil => simp at hi
 | cons a r ih =>
  cases i with
  | zero => simp; omega
  | succ i => simp only [List.set_cons_succ,List.sum_cons,List.getD_cons_succ]; rw [ih i (by simpa using hi)]; omega
theorem mL {l : List Int} (h : ∀ x ∈ l,0 ≤ x) : 0 ≤ l.sum := by
 induction l with
 | nil => simp
 | cons a r ih => have := ih fun x hx => h x (by simp [hx]); have := h a (by simp); simp; omega
theorem xF {l : List Int} (h : ∀ x ∈ l,0 ≤ x) : ∀ x ∈ l,x ≤ l.sum := by
 induction l with
 | nil => simp
 | cons a r ih =>
  have h1 := ih fun x hx => h x (by simp [hx])
  have h2 := mL (l := r) fun x hx => h x (by simp [hx])
  have h3 := h a (by simp)
  intro x hx; rcases List.mem_cons.1 hx with rfl | hx
  · simp; omega
  · have := h1 x hx; simp; omega
theorem pC {l : List Int} {m : Int} (h : ∀ x ∈ l,x ≤ m) : l.sum ≤ l.length * m := by
 induction l with
 | nil => simp
 | cons a r ih => have := ih fun x hx => h x (by simp [hx]); have := h a (by simp); simp [Int.add_mul]; omega
theorem oI {α} {l : List α} {d : α} {i : Nat} (h : i < l.length) : l.getD i d ∈ l := by
 simp [List.getD_eq_getElem?_getD,h]
theorem kZ {nd planes : Int} {e : dC} : eA nd planes e = true ↔ (0 ≤ e.dock ∧ e.dock < nd) ∧ (0 ≤ e.plane ∧ e.plane < planes) ∧ (-100000 ≤ e.people ∧ e.people ≤ 100000) ∧ (-100000 ≤ e.jackets ∧ e.jackets ≤ 100000) := by
 simp [eA,inB,bV]; omega
structure J (docks : List Int) (planes : Nat) (b : List cC) (l : List Int) : Prop where
 bl : b.length = planes
 ll : l.length = docks.length
 l0 : ∀ x ∈ l,0 ≤ x
 b0 : ∀ x ∈ b,0 ≤ x.people ∧ x.people = x.jackets
 tot : l.sum + (b.map cC.jackets).sum = docks.sum
theorem J.start {docks : List Int} (h : ∀ x ∈ docks,0 ≤ x) (planes : Nat) : J docks planes (List.replicate planes ⟨0,0⟩) docks :=
 ⟨by simp,rfl,h,by simp,by simp⟩
theorem J.at {docks : List Int} {planes : Nat} {b : List cC} {l : List Int} (s : J docks planes b l) {e : dC} (he : eA docks.length planes e = true) : gI b e.plane ∈ b ∧ l.getD e.dock.toNat 0 ∈ l := by
 obtain ⟨⟨a1,a2⟩,⟨b1,b2⟩,_⟩ := kZ.1 he
 exact ⟨oI (by rw [s.bl]; omega),oI (by rw [s.ll]; omega)⟩
theorem J.le {docks : List Int} {planes : Nat} {b : List cC} {l : List Int} (s : J docks planes b l) : (∀ x ∈ l,0 ≤ x ∧ x ≤ docks.sum) ∧ ∀ x ∈ b,0 ≤ x.people ∧ x.people = x.jackets ∧ x.people ≤ docks.sum := by
 have hb : ∀ x ∈ b.map cC.jackets,0 ≤ x := fun x hx => by
  obtain ⟨y,hy,rfl⟩ := List.mem_map.1 hx
  have := s.b0 y hy; omega
 have h1 := mL hb
 have h2 := mL s.l0
 have ht := s.tot
 refine ⟨fun x hx => ⟨s.l0 x hx,?_⟩,fun x hx => ?_⟩
 · have := xF s.l0 x hx; omega
 · have h3 := s.b0 x hx
   have h4 := xF hb _ (List.mem_map_of_mem hx)
   refine ⟨h3.1,h3.2,?_⟩; omega
theorem J.step {docks : List Int} {planes : Nat} {b : List cC} {l : List Int} (s : J docks planes b l) {e : dC} (he : eA docks.length planes e = true) (hbad : qS b l e = false) :
 J docks planes (b.set e.plane.toNat (kM b e)) (l.set e.dock.toNat (l.getD e.dock.toNat 0 - e.jackets)) := by
 obtain ⟨⟨a1,a2⟩,⟨b1,b2⟩,_⟩ := kZ.1 he
 simp only [qS,Bool.or_eq_false_iff,decide_eq_false_iff_not,Int.not_lt,Decidable.not_not] at hbad
 obtain ⟨c1,c2,c3,c4⟩ := hbad
 refine ⟨by simp [s.bl],by simp [s.ll],fun x hx => ?_,fun x hx => ?_,?_⟩
 · rcases List.mem_or_eq_of_mem_set hx with hx | rfl
   · exact s.l0 x hx
   · omega
 · rcases List.mem_or_eq_of_mem_set hx with hx | rfl
   · exact s.b0 x hx
   · exact ⟨c1,c4⟩
 · rw [List.map_set,rE _ _ _ (by rw [s.ll]; omega),rE _ _ _ (by simp [s.bl]; omega)]
   have ht := s.tot
   have : (b.map cC.jackets).getD e.plane.toNat 0 = (gI b e.plane).jackets := by
    have : e.plane.toNat < b.length := by rw [s.bl]; omega
    simp [gI,List.getD_eq_getElem?_getD,this]
   rw [this]
   simp only [kM]; omega
theorem oO {docks : List Int} {planes : Nat} : ∀ (evs : List dC) (i : Int) (b : List cC) (l : List Int),J docks planes b l → (∀ e ∈ evs,eA docks.length planes e = true) →
 J docks planes (cgo evs i b l).2.1 (cgo evs i b l).2.2 ∧ ((cgo evs i b l).1 = -1 ∨ i ≤ (cgo evs i b l).1 ∧ (cgo evs i b l).1 < i + evs.length)
 | [],i,b,l,s,_ => ⟨s,.inl rfl⟩
 | e :: r,i,b,l,s,h => by
  rw [cgo]
  split
  · exact ⟨s,.inr ⟨Int.le_refl _,by simp; omega⟩⟩
  · rename_i hb
    have := oO r (i + 1) _ _ (s.step (h e (by simp)) (by simpa using hb)) fun x hx => h x (by simp [hx])
    refine ⟨this.1,this.2.imp id fun x => ⟨by omega,by simp only [List.length_cons]; omega⟩⟩
end Go.Proofs.Ab
namespace Go.Proofs.Ab
open Go Go.Proofs
variable {w0 : World} {h : aA}
attribute [local irreducible] ACall aS cJ bM dL rvC lp rg dr ex un rv
def dZ (b : List cC) : List AV := (b.map cC.c).flatten
theorem jB (b : List cC) : ∀ c ∈ b.map cC.c,c.length = 2 := fun c hc => by
 obtain ⟨x,_,rfl⟩ := List.mem_map.1 hc; rfl
theorem uR (N : Nat) (b : List cC) : AV.bdds N (dZ b) := aK.2 fun x hx => by
 obtain ⟨c,hc,hx⟩ := List.mem_flatten.1 hx
 obtain ⟨y,_,rfl⟩ := List.mem_map.1 hc
 simp only [cC.c,List.mem_cons,List.not_mem_nil,or_false] at hx
 rcases hx with rfl | rfl <;> trivial
theorem aBm (N : Nat) (l : List Int) : AV.bdds N (iis l) := aK.2 fun x hx => by
 simp only [iis,List.mem_map] at hx
 obtain ⟨z,_,rfl⟩ := hx; trivial
theorem brd_at {b : List cC} {i : Int} (h0 : 0 ≤ i) (h1 : i < b.length) : (b.map cC.c)[i.toNat]? = some (gI b i).c := by
 have : i.toNat < b.length := by omega
 simp [gI,List.getD_eq_getElem?_getD,this]
theorem vU (n : Nat) : cV [.int .i64 0,.int .i64 0] n = dZ (List.replicate n ⟨0,0⟩) := by
 induction n with
 | zero => rfl
 | succ n ih => rw [reps_s,ih]; rfl
def fO (w0 : World) (H : aA) (y : AV) (docks : List Int) (planes : Int) (evs : List dC) : Prop :=
 if 100 < evs.length then y = .tup [.int .i64 (-1),.nilS,.nilS,.int .i64 3]
 else if bL docks planes evs = true then ∃ bv lv,y = .tup [.int .i64 (iZ docks planes.toNat evs).1,bv,lv,.int .i64 0] ∧ Sl w0 H 2 bv ((iZ docks planes.toNat evs).2.1.map cC.c) ∧ SlI w0 H lv (iZ docks planes.toNat evs).2.2
 else y = .tup [.int .i64 (-1),.nilS,.nilS,.int .i64 2]
theorem vR {H : aA} {i n : Nat} {b : List cC} {f : Bool} (hi : H[i]? = some (some (.row (dZ b)))) (hn : b.length = n) : Sl w0 H 2 (.sl (.own i 0) n 2 f) (b.map cC.c) := by
 have := jC (w0 := w0) (full := f) hi (jB b)
 rwa [List.length_map,hn] at this
theorem sl_iis {H : aA} {i n : Nat} {l : List Int} {f : Bool} (hi : H[i]? = some (some (.row (iis l)))) (hn : l.length = n) : SlI w0 H (.sl (.own i 0) n 1 f) l := by
 have e : iis l = (l.map fun z => [AV.int .i64 z]).flatten := tZ l
 have := jC (w0 := w0) (H := H) (es := 1) (io := i) (full := f) (rows := l.map fun z => [AV.int .i64 z]) (by rw [← e]; exact hi) (fun c hc => by obtain ⟨x,_,rfl⟩ := List.mem_map.1 hc; rfl)
 rwa [List.length_map,hn] at this
theorem aBB {docks : List Int} {planes : Int} {evs : List dC} {dv ev : AV} (hd : SlI w0 h dv docks) (he : Sl w0 h 4 ev (evs.map dC.c)) (hdn : docks.length ≤ 20) :
 ACall Try.prog w0 16 [dv,.int .i64 planes,ev] h fun y H => aN h H ∧ fO w0 H y docks planes evs := by
 refine cH bI rZ xA wZ (qE rfl) fun hb ha => bQ ?_
 obtain ⟨hlen,q,hix,hrow,_⟩ := he.use
 rw [List.length_map] at hlen hix
 have hld := (SlI.use hd).1
 have od := Sl.one hd
 simp only [go_sem,mf16,hlen,od.1,od.2]
 by_cases hL : 100 < evs.length
 · have e1 : (evs.length : Int) > 100 := by omega
   simp only [go_sem,e1]
   exact ⟨aN.refl.app,by rw [fO,if_pos hL]⟩
 have e1 : ¬ (evs.length : Int) > 100 := by omega
 obtain ⟨L0,hL0⟩ : ∃ L0 : aA,L0 = [some (.row [dv]),some (.row [.int .i64 planes])] := ⟨_,rfl⟩
 have g1 : ∀ L,(h ++ L0 ++ L)[h.length]? = some (some (.row [dv])) := fun L => by rw [hL0,List.append_assoc]; simp
 have g2 : ∀ L,(h ++ L0 ++ L)[h.length + 1]? = some (some (.row [.int .i64 planes])) := fun L => by rw [hL0,List.append_assoc,qI (by omega)]; simp
 have g1' := g1 []
 have g2' := g2 []
 rw [List.append_nil] at g1' g2'
 simp only [go_sem,e1]
 rw [← hL0]
 have hall := lD (w0 := w0) (h := h ++ L0) (evs.map dC.c) ev (.fn (.func 37) [] [.ptr (.own h.length 0),.ptr (.own (h.length + 1) 0)]) (fun j => eA docks.length (wi (planes - 1) + 1) (evs.getD j ⟨0,0,0,0⟩)) he.app (fun c hc => by
  obtain ⟨z,_,rfl⟩ := List.mem_map.1 hc; rfl) (by rw [List.length_map]; omega) (fun j c hc _ L => by
  rw [List.getElem?_map] at hc
  obtain ⟨z,hz,rfl⟩ := qD.1 hc
  rw [oH hz]
  exact bM.vc (P := Try.prog) (first := []) (capt := [.ptr (.own h.length 0),.ptr (.own (h.length + 1) 0)]) (xU (w0 := w0) (h := h ++ L0 ++ L) z (by have := g1 L; simp only [rd,this]; rfl) hld (by have := g2 L; simp only [rd,this]; rfl) (by omega)))
 rw [List.length_map,eO] at hall
 refine aV hall.v ?_
 have nope : ∀ H,aN h H → bL docks planes evs = false → aN h H ∧ fO w0 H (.tup [.int .i64 (-1),.nilS,.nilS,.int .i64 2]) docks planes evs := fun H s e => ⟨s,by rw [fO,if_neg hL,if_neg (by simp [e])]⟩
 have s0 : aN h (h ++ L0) := aN.refl.app
 simp only [go_sem,g1',g2',hld]
 refine aV (in_c docks.length 1 6).v ?_
 cases e2 : inB docks.length 1 6 with
 | false =>
  simp only [go_sem]
  exact nope _ s0 (by simp [bL,e2])
 | true =>
 simp only [go_sem,g1',g2']
 refine aV (mB 0 hd.app (by omega)).v ?_
 cases e3 : bV 0 docks with
 | false =>
  simp only [go_sem]
  exact nope _ s0 (by simp [bL,e3])
 | true =>
 simp only [go_sem,g1',g2']
 refine aV (in_c planes 0 6).v ?_
 cases e4 : inB planes 0 6 with
 | false =>
  simp only [go_sem]
  exact nope _ s0 (by simp [bL,e4])
 | true =>
 cases e5 : evs.all (eA docks.length (wi (planes - 1) + 1)) with
 | false =>
  simp only [go_sem]
  exact nope _ s0 (by simp [bL,e5])
 | true =>
 have hE : bL docks planes evs = true := by simp [bL,e2,e3,e4,e5]
 obtain ⟨p,rfl,hp6,hcn,⟨hd1,hd6⟩,hdx⟩ := kW hE
 simp only [go_sem,g1',g2']
 refine bC (ACall.vc (first := []) (args := [dv]) (aBr (w0 := w0) (h := h ++ L0) hd.app (by omega) (by intro e; rw [e] at hd1; simp at hd1))) ?_
 rintro _ _ ⟨rfl,rfl⟩
 have e6 : (p : Int).toNat ≤ (p : Int).toNat ∧ (p : Int).toNat * (16 + 1) ≤ 1099511627776 := ⟨Nat.le_refl _,by omega⟩
 subst hL0
 have hp0 : (p : Int).toNat = p := rfl
 rw [show (wi ((p : Int) - 1) + 1) = p by rw [hO (by unfold I64; omega)]; omega] at e5
 simp only [go_sem,nat_ix,vU,hlen,beq_self_eq_true]
 refine ⟨by omega,?_⟩
 have hS := J.start (docks := docks) (fun x hx => (hdx x hx).1) p
 have hsum : docks.sum ≤ 600000 := by
  have := pC (l := docks) (m := 100000) fun x hx => (hdx x hx).2
  have : (docks.length : Int) * 100000 ≤ 6 * 100000 := Int.mul_le_mul_of_nonneg_right (by omega) (by omega)
  omega
 have vb := he.bdd (Nat.le_refl _)
 have db := hd.bdd (Nat.le_refl _)
 refine mY (S := Nat × List cC × List Int) (F := fun s => [(11,.sl (.own (h.length + 3) 0) docks.length 1 false),(12,.sl (.own (h.length + 4) 0) p 2 true),(44,ev),(45,.int .i64 evs.length),(46,.int .i64 s.1)])
  (H := fun s => h ++ [some (.row [dv]),some (.row [.int .i64 p]),some (.row []),some (.row (iis s.2.2)),some (.row (dZ s.2.1))]) (meas := fun s => evs.length - s.1)
  (Inv := fun s => s.1 ≤ evs.length ∧ J docks p s.2.1 s.2.2 ∧ cgo (evs.drop s.1) s.1 s.2.1 s.2.2 = iZ docks p evs) (0,List.replicate p ⟨0,0⟩,docks) ⟨by simp,hS,rfl⟩ rfl rfl ?_
 rintro ⟨j,b,l⟩ ⟨hj,hJ,hc⟩ ih
 simp only at hj hJ hc ih ⊢
 have fin : ∀ (L : aA) (at' : Int),iZ docks p evs = (at',b,l) → aN h (h ++ ([some (.row [dv]),some (.row [.int .i64 p]),some (.row []),some (.row (iis l)),some (.row (dZ b))] ++ L)) ∧
  fO w0 (h ++ ([some (.row [dv]),some (.row [.int .i64 p]),some (.row []),some (.row (iis l)),some (.row (dZ b))] ++ L)) (.tup [.int .i64 at',.sl (.own (h.length + 4) 0) p 2 true,.sl (.own (h.length + 3) 0) docks.length 1 false,.int .i64 0]) docks p evs := fun L at' e => by
  refine ⟨aN.refl.app,?_⟩
  rw [fO,if_neg hL,if_pos hE,Int.toNat_natCast,e]
  refine ⟨_,_,rfl,vR ?_ hJ.bl,sl_iis ?_ hJ.ll⟩
  · rw [qI (by omega),Nat.add_sub_cancel_left]; rfl
  · rw [qI (by omega),Nat.add_sub_cancel_left]; rfl
 refine bE bI aBw [11,12,44,45,46] L16_0.eq_1 ?_
 by_cases hjl : j < evs.length
 · have e7 : (j : Int) < evs.length := by omega
   obtain ⟨e,hej⟩ : ∃ e,evs[j]? = some e := ⟨_,qA hjl⟩
   have hce := hcn e (List.mem_of_getElem? hej)
   obtain ⟨⟨a1,a2⟩,⟨b1,b2⟩,⟨c1,c2⟩,c3,c4⟩ := kZ.1 hce
   have x1 := hix j hjl
   have x2 : ∀ L,rdn w0 (h ++ L) (q.add (j * 4)) 4 = some e.c := fun L => dR (hrow j _ (by rw [List.getElem?_map,hej]; rfl))
   have x3 : ∀ f,dN 2 (.sl (.own (h.length + 4) 0) p 2 f) (some e.plane.toNat) = some (.ptr (.own (h.length + 4) (e.plane.toNat * 2))) := fun f => wA (by omega)
   have x4 : ∀ f,dN 1 (.sl (.own (h.length + 3) 0) docks.length 1 f) (some e.dock.toNat) = some (.ptr (.own (h.length + 3) e.dock.toNat)) := fun f => by rw [wA (by omega),Nat.mul_one]
   obtain ⟨r1,r2⟩ : e.plane.toNat * 2 + 2 ≤ (dZ b).length ∧ ((dZ b).drop (e.plane.toNat * 2)).take 2 = (gI b e.plane).c := by
    have := sH (jB b) (brd_at b1 (by rw [hJ.bl]; exact b2))
    exact ⟨this.1,this.2.1⟩
   have hLe := hJ.le
   obtain ⟨m1,m2⟩ := hJ.at hce
   obtain ⟨n1,n2,n3⟩ := hLe.2 _ m1
   have n4 := hLe.1 _ m2
   have y1 : (iis l)[e.dock.toNat]? = some (.int .i64 (l.getD e.dock.toNat 0)) := iF (by
    have : e.dock.toNat < l.length := by rw [hJ.ll]; omega
    simp [List.getD_eq_getElem?_getD,this])
   have y2 : wi (l.getD e.dock.toNat 0 - e.jackets) = l.getD e.dock.toNat 0 - e.jackets := hO (by unfold I64; omega)
   have hdrop : evs.drop j = e :: evs.drop (j + 1) := by
    rw [qA hjl,Option.some.injEq] at hej
    rw [List.drop_eq_getElem_cons hjl,hej]
   rw [hdrop,cgo] at hc
   obtain ⟨P,hP⟩ : ∃ P,P = (gI b e.plane).people + e.people := ⟨_,rfl⟩
   obtain ⟨K,hK⟩ : ∃ K,K = (gI b e.plane).jackets + e.jackets := ⟨_,rfl⟩
   have hN : kM b e = ⟨P,K⟩ := by rw [kM,hP,hK]
   have hbad : qS b l e = (decide (P < 0) || (decide (K < 0) || (decide (l.getD e.dock.toNat 0 < e.jackets) || decide (P ≠ K)))) := by rw [qS,hN]
   have iP : I64 P := by unfold I64; omega
   have iK : I64 K := by unfold I64; omega
   have stop : qS b l e = true → aN h (h ++ ([some (.row [dv]),some (.row [.int .i64 p]),some (.row []),some (.row (iis l)),some (.row (dZ b))] ++ [some (.row e.c),some (.row [.int .i64 P,.int .i64 K])])) ∧
    fO w0 (h ++ ([some (.row [dv]),some (.row [.int .i64 p]),some (.row []),some (.row (iis l)),some (.row (dZ b))] ++ [some (.row e.c),some (.row [.int .i64 P,.int .i64 K])])) (.tup [.int .i64 j,.sl (.own (h.length + 4) 0) p 2 true,.sl (.own (h.length + 3) 0) docks.length 1 false,.int .i64 0]) docks p evs := fun e => by
    rw [if_pos e] at hc
    exact fin _ _ hc.symm
   by_cases q1 : P < 0
   · simp only [go_sem,e7,x1,x2,fI b1,x3,fI a1,x4,r1,r2,y1,← hP,← hK,q1]
     refine ⟨iP,iK,?_⟩
     exact stop (by simp [hbad,q1])
   by_cases q2 : K < 0
   · simp only [go_sem,e7,x1,x2,fI b1,x3,fI a1,x4,r1,r2,y1,← hP,← hK,q1,q2]
     refine ⟨iP,iK,?_⟩
     exact stop (by simp [hbad,q2])
   by_cases q3 : l.getD e.dock.toNat 0 < e.jackets
   · simp only [go_sem,e7,x1,x2,fI b1,x3,fI a1,x4,r1,r2,y1,← hP,← hK,q1,q2,q3]
     refine ⟨iP,iK,?_⟩
     exact stop (by rw [hbad]; simp only [decide_eq_true q3,Bool.true_or,Bool.or_true])
   simp only [go_sem,e7,x1,x2,fI b1,x3,fI a1,x4,r1,r2,y1,← hP,← hK,q1,q2,q3]
   refine ⟨iP,iK,fun q4 => ?_,fun q4 => ?_⟩
   · exact stop (by simp [hbad,q4])
   · have hb0 : qS b l e = false := by rw [hbad]; simp only [decide_eq_false q1,decide_eq_false q2,decide_eq_false q3,decide_eq_false (fun x : P ≠ K => x q4),Bool.or_false]
     rw [if_neg (by simp [hb0])] at hc
     refine ⟨by rw [show (iis l).length = l.length by simp [iis],hJ.ll]; omega,(by unfold I64; omega),?_⟩
     have z1 : (dZ b).take (e.plane.toNat * 2) ++ AV.int IntKind.i64 P :: AV.int IntKind.i64 K :: (dZ b).drop (e.plane.toNat * 2 + 2) = dZ (b.set e.plane.toNat (kM b e)) := by
      have := oL (jB b) (j := e.plane.toNat) (x := cC.c ⟨P,K⟩) (by rw [List.length_map,hJ.bl]; omega) rfl
      rw [dZ,dZ,hN,List.map_set,← this]; rfl
     rw [z1,y2,kE (by rw [show (iis l).length = l.length by simp [iis],hJ.ll]; omega),nB]
     refine jV 5 hb (by simp [eM,eN,fY,fZ,jD,fR,AV.bdds,AV.bdd,Pl.bdd,dU,uR,aBm]; exact AV.bdd_mono (by omega) _ db) (by simp [eM,eN,fY,fZ,jD,fR,AV.bdds,AV.bdd,Pl.bdd,dU]; exact AV.bdd_mono (by omega) _ vb) ?_
     have := ih (j + 1,b.set e.plane.toNat (kM b e),l.set e.dock.toNat (l.getD e.dock.toNat 0 - e.jackets)) ⟨by simp only; omega,hJ.step hce hb0,by simpa using hc⟩ (by simp only; omega)
     simpa using this
 · have e7 : ¬ (j : Int) < evs.length := by omega
   obtain rfl : j = evs.length := by omega
   simp only [go_sem,e7]
   rw [List.drop_length] at hc
   simpa using fin [] (-1) (by rw [← hc]; rfl)
theorem tN {docks : List Int} {planes : Int} {evs : List dC} {dv ev : AV} (hd : SlI w0 h dv docks) (he : Sl w0 h 4 ev (evs.map dC.c)) (hdn : docks.length < 1000000) (hen : evs.length < 1000000) :
 bM Try.prog w0 17 [dv,.int .i64 planes,ev] h (.bool (bL docks planes evs)) h := by
 refine bG bI aA6 mf17_b mf17_g (qE rfl) (by simp [AV.bdd,AV.bdds]) fun hb ha => bQ ?_
 obtain ⟨hlen,q,hix,hrow,_⟩ := he.use
 rw [List.length_map] at hlen hix
 have hld := (SlI.use hd).1
 have vb := he.bdd (Nat.le_refl _)
 have db := hd.bdd (Nat.le_refl _)
 simp only [go_sem,mf17]
 refine iR (fun j => [(0,dv),(1,.int .i64 planes),(2,ev),(7,.int .i64 j)]) (fun j => inB (docks.getD j 0) 0 100000 = true) docks.length rfl (fun j hj hall ih => ?_) (fun hall => ?_)
 · refine bE bI sS [0,1,2,7] L17_0.eq_1 ?_
   obtain ⟨p,i1,r1,r1'⟩ := hd.at_ hj
   have e1 : (j : Int) < docks.length := by omega
   simp only [go_sem,hld,e1,i1,r1,r1']
   refine aV (kI docks[j] 0 100000).v ?_
   simp only [go_sem]
   refine ⟨fun a => ?_,fun a => ⟨(by unfold I64; omega),ih (by rw [jZ hj]; exact a)⟩⟩
   have : bV 0 docks = false := by
    rw [bV,List.all_eq_false]
    exact ⟨_,qG hj,by simp [a]⟩
   simp [bL,this]
 · refine bE bI sS [0,1,2,7] L17_0.eq_1 ?_
   have e1 : ¬ (docks.length : Int) < docks.length := by omega
   have hc : bV 0 docks = true := by
    rw [bV,← eO 0,List.all_eq_true]
    exact fun j hj => hall j (List.mem_range.1 hj)
   simp only [go_sem,hld,e1]
   refine iR (fun j => [(0,dv),(1,.int .i64 planes),(2,ev),(8,.int .i64 j)]) (fun j => eA docks.length (wi (planes - 1) + 1) (evs.getD j ⟨0,0,0,0⟩) = true) evs.length rfl (fun j hj hall ih => ?_) (fun hall => ?_)
   · refine bE bI sR [0,1,2,8] L17_1.eq_1 ?_
     obtain ⟨e,hej⟩ : ∃ e,evs[j]? = some e := ⟨_,qA hj⟩
     have e2 : (j : Int) < evs.length := by omega
     have x1 := hix j hj
     have x2 : ∀ L,rdn w0 (h ++ L) (q.add (j * 4)) 4 = some e.c := fun L => dR (hrow j _ (by rw [List.getElem?_map,hej]; rfl))
     have x2' := x2 []
     rw [List.append_nil] at x2'
     have w1 : wi ((docks.length : Int) - 1) = docks.length - 1 := hO (by unfold I64; omega)
     have e3 : wi (planes - 1) + 1 - 1 = wi (planes - 1) := by omega
     rw [oH hej] at ih
     have no : eA docks.length (wi (planes - 1) + 1) e = false → bL docks planes evs = false := fun x => by
      have : evs.all (eA docks.length (wi (planes - 1) + 1)) = false := by
       rw [List.all_eq_false]; exact ⟨e,List.mem_of_getElem? hej,by simp [x]⟩
      simp [bL,this]
     simp only [go_sem,hlen,e2,x1,x2,x2',hld,w1]
     refine aV (kI e.dock 0 (docks.length - 1)).v ?_
     cases c1 : inB e.dock 0 (docks.length - 1) with
     | false => simp only [go_sem]; rw [no (by simp [eA,c1])]
     | true =>
     simp only [go_sem]
     refine aV (kI e.plane 0 (wi (planes - 1))).v ?_
     cases c2 : inB e.plane 0 (wi (planes - 1)) with
     | false => simp only [go_sem]; rw [no (by simp [eA,e3,c2])]
     | true =>
     simp only [go_sem]
     refine aV (kI e.people (-100000) 100000).v ?_
     cases c3 : inB e.people (-100000) 100000 with
     | false => simp only [go_sem]; rw [no (by simp [eA,bV,c3])]
     | true =>
     simp only [go_sem]
     refine aV (kI e.jackets (-100000) 100000).v ?_
     cases c4 : inB e.jackets (-100000) 100000 with
     | false => simp only [go_sem]; rw [no (by simp [eA,bV,c4])]
     | true =>
     simp only [go_sem]
     refine ⟨(by unfold I64; omega),jV 0 hb (by simp [HBs]) (by simp [eM,eN,fY,fZ,jD,fR,AV.bdds,AV.bdd,Pl.bdd,dU]; exact ⟨db,vb⟩) ?_⟩
     simpa using ih (by simp [eA,bV,c1,c2,c3,c4,e3])
   · refine bE bI sR [0,1,2,8] L17_1.eq_1 ?_
     have e2 : ¬ (evs.length : Int) < evs.length := by omega
     have hE : evs.all (eA docks.length (wi (planes - 1) + 1)) = true := by
      rw [← eO ⟨0,0,0,0⟩,List.all_eq_true]
      exact fun j hj => hall j (List.mem_range.1 hj)
     simp only [go_sem,hlen,e2,hld]
     refine aV (kI docks.length 1 6).v ?_
     cases c1 : inB docks.length 1 6 with
     | false => simp only [go_sem]; simp [bL,c1]
     | true =>
     simp only [go_sem]
     refine aV (kI planes 0 6).v ?_
     simp only [go_sem]
     simp [bL,c1,hc,hE]
end Go.Proofs.Ab
namespace Go.Proofs.Ab
open Go Go.Proofs
variable {w : World} {h : aA} {cs : List Value}
theorem int_of {v : Value} (g : Gd w (.int .nil) [v]) : ∃ n : Int,inj v = .int .i64 n ∧ I64 n := by
 obtain ⟨n,_,e,h,rfl⟩ := g
 cases e; exact ⟨n,rfl,h⟩
theorem aBd {v : Value} (g : Gd w (.sl (.int .nil) .nil) [v]) : ∃ l : List Int,SlI w h (inj v) l ∧ l.length ≤ 9223372036854775807 := by
 obtain ⟨_,_,e,h,rfl⟩ := g
 cases e; exact aBk h
def pS : Rw := .int (.int (.int (.int .nil)))
theorem aBl (g : Gd w pS cs) : ∃ a b c d : Int,cs.map inj = [.int .i64 a,.int .i64 b,.int .i64 c,.int .i64 d] ∧ I64 a ∧ I64 b ∧ I64 c ∧ I64 d := by
 obtain ⟨a,_,rfl,h1,b,_,rfl,h2,c,_,rfl,h3,d,_,rfl,h4,rfl⟩ := g
 exact ⟨a,b,c,d,rfl,h1,h2,h3,h4⟩
theorem aBq {v : Value} (g : Gd w (.sl pS .nil) [v]) : ∃ l : List dC,Sl w h 4 (inj v) (l.map dC.c) ∧ l.length ≤ 9223372036854775807 := by
 obtain ⟨_,_,e,h,rfl⟩ := g
 cases e
 exact nW dC.c rfl h fun _ g => by
  obtain ⟨a,b,c,d,e,_⟩ := aBl g
  exact ⟨⟨a,b,c,d⟩,e⟩
end Go.Proofs.Ab
namespace Go.Proofs.Ab
open Go Go.Proofs
variable {w0 : World} {h : aA}
attribute [local irreducible] ACall aS cJ bM dL rvC lp rg dr ex un rv
theorem eF {l : List Int} {j : Nat} (h : j < l.length) : (l.take (j + 1)).sum = (l.take j).sum + l[j] := by
 rw [List.take_succ_eq_append_getElem h,List.sum_append]; simp
theorem eY {l : List Int} {m : Int} (h : ∀ x ∈ l,0 ≤ x ∧ x ≤ m) (j : Nat) (hm : 0 ≤ m) : 0 ≤ (l.take j).sum ∧ (l.take j).sum ≤ l.length * m := by
 have h1 : ∀ x ∈ l.take j,0 ≤ x ∧ x ≤ m := fun x hx => h x (List.mem_of_mem_take hx)
 refine ⟨mL fun x hx => (h1 x hx).1,Int.le_trans (pC fun x hx => (h1 x hx).2) (Int.mul_le_mul_of_nonneg_right ?_ hm)⟩
 rw [List.length_take]; omega
theorem lK {docks : List Int} {planes : Int} {evs : List dC} {dv ev : AV} (hd : SlI w0 h dv docks) (he : Sl w0 h 4 ev (evs.map dC.c)) (hdn : docks.length ≤ 9223372036854775807) (hen : evs.length ≤ 9223372036854775807) :
 bM Try.prog w0 6 [dv,.int .i64 planes,ev] h (.bool true) h := by
 refine nN trivial (cH bI mf6_ok mf6_b mf6_g (qE rfl) fun hb ha => bQ ?_)
 have hld := (SlI.use hd).1
 have hle : kP ev = some (.int .i64 evs.length) := by have := he.use.1; rwa [List.length_map] at this
 by_cases q1 : (docks.length : Int) > 20
 · simp only [go_sem,mf6,hld,hle,q1]
   refine aV jX.v ?_
   simp only [go_sem]
   exact aN.refl.app
 by_cases q2 : (evs.length : Int) > 30
 · simp only [go_sem,mf6,hld,hle,q1,q2]
   refine aV jX.v ?_
   simp only [go_sem]
   exact aN.refl.app
 have hE := tN (planes := planes) hd he (by omega) (by omega)
 simp only [go_sem,mf6,hld,hle,q1,q2]
 rw [List.append_nil]
 refine aV hE.v ?_
 cases e6 : bL docks planes evs with
 | false =>
  simp only [go_sem]
  refine aV jX.v ?_
  simp only [go_sem]
  exact aN.refl
 | true =>
 simp only [go_sem]
 refine bC (ACall.vc (first := []) (args := [dv,.int .i64 planes,ev]) (aBB hd he (by omega))) ?_
 rintro y H1 ⟨s1,k1⟩
 rw [fO,if_neg (by omega),if_pos e6] at k1
 obtain ⟨bv,lv,rfl,hbv,hlv⟩ := k1
 obtain ⟨p,rfl,hp6,hcn,⟨hd1,hd6⟩,hdx⟩ := kW e6
 obtain ⟨hJ,hat⟩ := oO (docks := docks) (planes := p) evs 0 _ _ (J.start (fun x hx => (hdx x hx).1) p) hcn
 obtain ⟨C,hC⟩ : ∃ C,C = iZ docks p evs := ⟨_,rfl⟩
 rw [show cgo evs 0 (List.replicate p ⟨0,0⟩) docks = C from hC.symm] at hJ hat
 rw [show (p : Int).toNat = p from rfl,← hC] at hbv hlv ⊢
 have hlb : kP bv = some (.int .i64 p) := by have := hbv.use.1; rwa [List.length_map,hJ.bl] at this
 have hll : kP lv = some (.int .i64 docks.length) := by have := (SlI.use hlv).1; rwa [hJ.ll] at this
 have t1 : ¬ C.1 < -1 := by omega
 have t2 : ¬ (C.1 ≥ (evs.length : Int)) := by omega
 have hsum : docks.sum ≤ 600000 := by
  have := pC (l := docks) (m := 100000) fun x hx => (hdx x hx).2
  have : (docks.length : Int) * 100000 ≤ 6 * 100000 := Int.mul_le_mul_of_nonneg_right (by omega) (by omega)
  omega
 have hd' := Sl.sub hd s1
 have hle' := hJ.le
 simp only [go_sem,hlb,hll,hld,hle,t1,t2]
 have B1 : ∀ j : Nat,0 ≤ (C.2.2.take j).sum ∧ (C.2.2.take j).sum ≤ 6 * 600000 := fun j => by
  have := eY (m := 600000) (fun x hx => ⟨(hle'.1 x hx).1,by have := (hle'.1 x hx).2; omega⟩) j (by omega)
  have h2 : (C.2.2.length : Int) * 600000 ≤ 6 * 600000 := Int.mul_le_mul_of_nonneg_right (by rw [hJ.ll]; omega) (by omega)
  omega
 have B2 : ∀ j : Nat,0 ≤ (docks.take j).sum ∧ (docks.take j).sum ≤ 6 * 100000 := fun j => by
  have := eY hdx j (by omega)
  have h2 : (docks.length : Int) * 100000 ≤ 6 * 100000 := Int.mul_le_mul_of_nonneg_right (by omega) (by omega)
  omega
 have B3 : ∀ j : Nat,0 ≤ ((C.2.1.map cC.jackets).take j).sum ∧ ((C.2.1.map cC.jackets).take j).sum ≤ 6 * 600000 := fun j => by
  have := eY (l := C.2.1.map cC.jackets) (m := 600000) (fun x hx => by
   obtain ⟨y,hy,rfl⟩ := List.mem_map.1 hx
   have := hle'.2 y hy; omega) j (by omega)
  have h2 : ((C.2.1.map cC.jackets).length : Int) * 600000 ≤ 6 * 600000 := Int.mul_le_mul_of_nonneg_right (by rw [List.length_map,hJ.bl]; omega) (by omega)
  omega
 refine iR (fun j => [(0,dv),(8,bv),(9,lv),(11,.int .i64 ((C.2.2.take j).sum - (docks.take j).sum)),(12,.int .i64 j)]) (fun _ => True) docks.length rfl (fun j hj _ ih => ?_) (fun _ => ?_)
 · refine bE bI yQ [0,8,9,11,12] L6_0.eq_1 ?_
   obtain ⟨pd,i1,r1,r1'⟩ := SlI.at_ hd' hj
   obtain ⟨pl,i2,r2,r2'⟩ := SlI.at_ hlv (j := j) (by rw [hJ.ll]; exact hj)
   have hlj : j < C.2.2.length := by rw [hJ.ll]; exact hj
   have e2 : (j : Int) < docks.length := by omega
   have n1 := hle'.1 _ (qG hlj)
   have n2 := hdx _ (qG hj)
   have e3 : ¬ C.2.2[j] < 0 := by omega
   have b1 := B1 j; have b2 := B2 j
   have e4 := hO (n := (C.2.2.take j).sum - (docks.take j).sum + C.2.2[j] - docks[j]) (by unfold I64; omega)
   simp only [go_sem,hld,e2,i1,i2,r1,r2,r1',r2',e3,e4]
   refine ⟨(by unfold I64; omega),(by unfold I64; omega),?_⟩
   have := ih trivial
   rwa [eF hlj,eF hj,show (C.2.2.take j).sum + C.2.2[j] - ((docks.take j).sum + docks[j]) = (C.2.2.take j).sum - (docks.take j).sum + C.2.2[j] - docks[j] by omega] at this
 · refine bE bI yQ [0,8,9,11,12] L6_0.eq_1 ?_
   have e2 : ¬ (docks.length : Int) < docks.length := by omega
   simp only [go_sem,hld,e2]
   rw [List.take_length,show C.2.2.take docks.length = C.2.2 by rw [← hJ.ll,List.take_length]]
   have b1 := B1 C.2.2.length; have b2 := B2 docks.length
   rw [List.take_length] at b1 b2
   obtain ⟨_,qb,ixb,rwb,_⟩ := hbv.use
   refine iR (fun j => [(8,bv),(11,.int .i64 (C.2.2.sum - docks.sum + ((C.2.1.map cC.jackets).take j).sum)),(13,.int .i64 j)]) (fun _ => True) p (by simp) (fun j hj _ ih => ?_) (fun _ => ?_)
   · refine bE bI yP [8,11,13] L6_1.eq_1 ?_
     have hbj : j < C.2.1.length := by rw [hJ.bl]; exact hj
     have i1 := ixb j (by rw [List.length_map]; exact hbj)
     have hr : (C.2.1.map cC.c)[j]? = some C.2.1[j].c := by rw [List.getElem?_map,qA hbj]; rfl
     have r0 := rwb j _ hr
     have r1 : ∀ L,rd w0 (H1 ++ L) ((qb.add (j * 2)).add 0) = some (.int .i64 C.2.1[j].people) := fun L => fC (mS r0 (o := 0) rfl)
     have r2 : ∀ L,rd w0 (H1 ++ L) ((qb.add (j * 2)).add 1) = some (.int .i64 C.2.1[j].jackets) := fun L => fC (mS r0 (o := 1) rfl)
     have r1' := r1 []; have r2' := r2 []
     rw [List.append_nil] at r1' r2'
     have e2 : (j : Int) < p := by omega
     have n1 := hle'.2 _ (qG hbj)
     have n2 := hJ.b0 _ (qG hbj)
     have e3 : ¬ C.2.1[j].people < 0 := by omega
     have e4 := n2.2
     have e5 : ¬ C.2.1[j].jackets < 0 := by omega
     have b3 := B3 j
     simp only [go_sem,hlb,e2,i1,r1,r2,r1',r2',e3,e4,e5]
     refine ⟨(by unfold I64; omega),(by unfold I64; omega),?_⟩
     have := ih trivial
     rw [eF (by rw [List.length_map]; exact hbj),List.getElem_map] at this
     rwa [Int.add_assoc]
   · refine bE bI yP [8,11,13] L6_1.eq_1 ?_
     have e2 : ¬ (p : Int) < p := by omega
     have e3 : C.2.2.sum - docks.sum + ((C.2.1.map cC.jackets).take p).sum = 0 := by
      rw [← hJ.bl,← List.length_map (f := cC.jackets),List.take_length]
      have := hJ.tot; omega
     simp only [go_sem,hlb,e2,e3]
     refine aV jX.v ?_
     simp only [go_sem]
     exact s1
end Go.Proofs.Ab

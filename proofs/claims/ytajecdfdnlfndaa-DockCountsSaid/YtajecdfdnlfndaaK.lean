/- The own layer under the proofs of this seat, part K: what calls of the program come to on an abstract heap. No condition. -/
import Derived.Test.YtajecdfdnlfndaaJ
import Derived.Test.YtajecdfdnlfndaaG
set_option linter.unusedSimpArgs false
set_option linter.unusedVariables false
namespace Go.Proofs.Ab
open Go Go.Proofs
variable {w0 : World} {h : aA}
attribute [local irreducible] ACall aU cN bK dR rvC lp rg dr ex un rv
theorem in_c (x lo hi : Int) : bK Try.prog w0 38 [.int .i64 x,.int .i64 lo,.int .i64 hi] h (.bool (inB x lo hi)) h := by
 refine aW bB sI xJ xI (qE rfl) (by simp [AV.bdd,AV.bdds]) fun hb ha => bJ ?_
 simp only [go_sem,mf38]
 exact ⟨fun a => by simp [inB,a],fun a => by simp [inB,a]⟩
theorem kM (x lo hi : Int) : bK Try.prog w0 33 [.int .i64 x,.int .i64 lo,.int .i64 hi] h (.bool (inB x lo hi)) h := by
 refine aW bB aBc mf33_b mf33_g (qE rfl) (by simp [AV.bdd,AV.bdds]) fun hb ha => bJ ?_
 simp only [go_sem,mf33]
 exact ⟨fun a => by simp [inB,a],fun a => by simp [inB,a]⟩
theorem eW {α : Type} {l : List α} (d : α) {p : α → Bool} : (List.range l.length).all (fun j => p (l.getD j d)) = l.all p := by
 rw [Bool.eq_iff_iff,List.all_eq_true,List.all_eq_true]
 constructor
 · intro x a ha
   obtain ⟨i,hi,rfl⟩ := List.getElem_of_mem ha
   have := x i (List.mem_range.2 hi)
   rwa [kD hi] at this
 · intro x j hj
   have hj := List.mem_range.1 hj
   rw [kD hj]
   exact x _ (qG hj)
theorem oR {α : Type} {l : List α} {d x : α} {j : Nat} (e : l[j]? = some x) : l.getD j d = x := by simp [List.getD_eq_getElem?_getD,e]
theorem nG {es : Nat} : ∀ {rows : List (List AV)},(∀ c ∈ rows,c.length = es) → ∀ {j : Nat} {c : List AV},rows[j]? = some c → j * es + es ≤ rows.flatten.length ∧ (rows.flatten.drop (j * es)).take es = c ∧ ∀ (o : Nat) x,c[o]? = some x → rows.flatten[j * es + o]? = some x
 | [],_,j,c,hc => by simp at hc
 | r :: rows,h,0,c,hc => by
  simp only [List.getElem?_cons_zero,Option.some.injEq] at hc; subst hc
  have hl := h r (by simp)
  subst hl
  refine ⟨by simp,by simp,fun o x hx => ?_⟩
  rw [Nat.zero_mul,Nat.zero_add,List.flatten_cons,qH (aT hx)]; exact hx
 | r :: rows,h,j + 1,c,hc => by
  have hl := h r (by simp)
  obtain ⟨a,b,e⟩ := nG (rows := rows) (es := es) (fun x hx => h x (by simp [hx])) (j := j) (by simpa using hc)
  have e1 : (j + 1) * es = r.length + j * es := by rw [Nat.add_mul,hl]; omega
  refine ⟨by rw [e1,List.flatten_cons,List.length_append]; omega,?_,fun o x hx => ?_⟩
  · rw [e1,List.flatten_cons,← List.drop_drop,List.drop_left]; exact b
  · rw [e1,List.flatten_cons,qI (by omega)]
    have := e o x hx
    rwa [show r.length + j * es + o - r.length = j * es + o by omega]
theorem kW {es : Nat} : ∀ {rows : List (List AV)},(∀ c ∈ rows,c.length = es) → ∀ {j : Nat} {x : List AV},j < rows.length → x.length = es → rows.flatten.take (j * es) ++ (x ++ rows.flatten.drop (j * es + es)) = (rows.set j x).flatten
 | [],_,j,c,hc,_ => by simp at hc
 | r :: rows,h,0,x,_,hx => by
  have hl := h r (by simp)
  simp [← hl]
 | r :: rows,h,j + 1,x,hj,hx => by
  have hl := h r (by simp)
  have ih := kW (rows := rows) (es := es) (fun x hx => h x (by simp [hx])) (j := j) (x := x) (by simpa using hj) hx
  have e1 : (j + 1) * es = r.length + j * es := by rw [Nat.add_mul,hl]; omega
  rw [e1,List.set_cons_succ,List.flatten_cons,List.flatten_cons,← ih,show r.length + j * es + es = r.length + (j * es + es) by omega,← List.drop_drop,List.drop_left,List.take_length_add_append,List.append_assoc]
theorem mZ {es i n j : Nat} {f : Bool} (h : j < n) : dG es (.sl (.own i 0) n es f) (some j) = some (.ptr (.own i (j * es))) := by simp [dG,fI,Pl.add,h]
theorem wS {n : Nat} : (if (0 : Int) ≤ (n : Int) then some (n : Int).toNat else none) = some n := by rw [if_pos (by omega),Int.toNat_natCast]
theorem cH {n : Int} (h : 0 ≤ n) : (if (0 : Int) ≤ n then some n.toNat else none) = some n.toNat := if_pos h
theorem lF (rows : List (List AV)) (v fv : AV) (p : Nat → Bool) (hv : Sl w0 h 4 v rows) (ho : ∀ c ∈ rows,c.all one = true) (hn : rows.length < 1000000)
 (hf : ∀ (j : Nat) c,rows[j]? = some c → (∀ i,i < j → p i = true) → ∀ L,dR Try.prog w0 fv [.agg c] (h ++ L) (.bool (p j)) (h ++ L)) : bK Try.prog w0 36 [v,fv] h (.bool ((List.range rows.length).all p)) h := by
 refine aW bB sK xN xM (qE rfl) (by simp [AV.bdd,AV.bdds]) fun hb ha => bJ ?_
 have hfb : fv.bdd h.length := by simp only [AV.bdds] at ha; exact ha.2.1
 obtain ⟨hlen,q,hix,hrow,_⟩ := hv.use
 have vb := hv.bdd (Nat.le_refl _)
 simp only [go_sem,mf36,hlen]
 refine jA (fun j => [(1,fv),(7,v),(8,.int .i64 rows.length),(9,.int .i64 j)]) (fun j => p j = true) rows.length rfl (fun j hj hall ih => ?_) (fun hall => ?_)
 · refine bC bB tH [1,7,8,9] L36_0.eq_1 ?_
   have e1 := hix j hj
   have e3 : (j : Int) < rows.length := by omega
   obtain ⟨c,hc⟩ : ∃ c,rows[j]? = some c := ⟨_,qA hj⟩
   have hl : c.length = 4 := (rW (hrow j _ hc)).1
   have e2 : ∀ L,rdn w0 (h ++ L) (q.add (j * 4)) 4 = some c := fun L => cO (hrow j _ hc)
   have ho := ho c (List.mem_of_getElem? hc)
   obtain ⟨x0,x1,x2,x3,rfl⟩ : ∃ x0 x1 x2 x3,c = [x0,x1,x2,x3] := by
    match c,hl with
    | [x0,x1,x2,x3],_ => exact ⟨x0,x1,x2,x3,rfl⟩
   simp only [go_sem,e1,e2,e3,ho]
   refine aP (by simpa using hf j _ hc hall [some (.row [x0,x1,x2,x3])]) ?_
   simp only [go_sem]
   refine ⟨fun e => ?_,fun e => ⟨(by unfold I64; omega),?_⟩⟩
   · have : (List.range rows.length).all p = false := by
      rw [List.all_eq_false]; exact ⟨j,List.mem_range.2 hj,by simp [e]⟩
     rw [this]
   · refine iI 0 hb (by simp [HBs]) (by simp [dW,dX,eO,eP,fV,eJ,AV.bdds,AV.bdd,Pl.bdd,cX]; exact ⟨hfb,vb⟩) ?_
     simpa using ih e
 · refine bC bB tH [1,7,8,9] L36_0.eq_1 ?_
   have e3 : ¬ (rows.length : Int) < rows.length := by omega
   simp only [go_sem,e3]
   have : (List.range rows.length).all p = true := by rw [List.all_eq_true]; exact fun x hx => hall x (List.mem_range.1 hx)
   rw [this]
theorem zA (rows : List (List AV)) (v fv : AV) (p : Nat → Bool) (hv : Sl w0 h 1 v rows) (ho : ∀ c ∈ rows,c.all one = true) (hn : rows.length < 1000000)
 (hf : ∀ (j : Nat) c,rows[j]? = some c → (∀ i,i < j → p i = true) → ∀ L,dR Try.prog w0 fv [c.headD .undef] (h ++ L) (.bool (p j)) (h ++ L)) : bK Try.prog w0 67 [v,fv] h (.bool ((List.range rows.length).all p)) h := by
 refine aW bB sF xD xC (qE rfl) (by simp [AV.bdd,AV.bdds]) fun hb ha => bJ ?_
 have hfb : fv.bdd h.length := by simp only [AV.bdds] at ha; exact ha.2.1
 obtain ⟨hlen,q,hix,hrow,_⟩ := hv.use
 have vb := hv.bdd (Nat.le_refl _)
 simp only [go_sem,mf67,hlen]
 refine jA (fun j => [(1,fv),(7,v),(8,.int .i64 rows.length),(9,.int .i64 j)]) (fun j => p j = true) rows.length rfl (fun j hj hall ih => ?_) (fun hall => ?_)
 · refine bC bB tG [1,7,8,9] L67_0.eq_1 ?_
   have e1 := hix j hj
   have e3 : (j : Int) < rows.length := by omega
   obtain ⟨c,hc⟩ : ∃ c,rows[j]? = some c := ⟨_,qA hj⟩
   have hl : c.length = 1 := (rW (hrow j _ hc)).1
   have e2 : ∀ L,rdn w0 (h ++ L) (q.add (j * 1)) 1 = some c := fun L => cO (hrow j _ hc)
   have ho := ho c (List.mem_of_getElem? hc)
   obtain ⟨x0,rfl⟩ : ∃ x0,c = [x0] := by
    match c,hl with
    | [x0],_ => exact ⟨x0,rfl⟩
   have e4 : ∀ L,rd w0 (h ++ L) (q.add (j * 1)) = some x0 := fun L => rd_0 (e2 L) rfl
   simp only [go_sem,e1,e4,e3,ho]
   refine aP (by simpa using hf j _ hc hall []) ?_
   simp only [go_sem]
   refine ⟨fun e => ?_,fun e => ⟨(by unfold I64; omega),?_⟩⟩
   · have : (List.range rows.length).all p = false := by
      rw [List.all_eq_false]; exact ⟨j,List.mem_range.2 hj,by simp [e]⟩
     rw [this]
     exact ⟨rfl,[],(List.append_nil _).symm⟩
   · simpa using ih e
 · refine bC bB tG [1,7,8,9] L67_0.eq_1 ?_
   have e3 : ¬ (rows.length : Int) < rows.length := by omega
   simp only [go_sem,e3]
   have : (List.range rows.length).all p = true := by rw [List.all_eq_true]; exact fun x hx => hall x (List.mem_range.1 hx)
   rw [this]
theorem qV (x lo : Int) {p : Pl} (hp : rd w0 h p = some (.int .i64 lo)) : bK Try.prog w0 68 [.int .i64 x,.ptr p] h (.bool (inB x lo 100000)) h := by
 refine aW bB sE xB xA (qE rfl) (by simp [AV.bdd,AV.bdds]) fun hb ha => bJ ?_
 have e : ∀ L,rd w0 (h ++ L) p = some (.int .i64 lo) := fun L => iY hp
 simp only [go_sem,mf68,e]
 refine aP (in_c x lo 100000).v ?_
 simp only [go_sem]
def bV (lo : Int) (l : List Int) : Bool := l.all fun x => inB x lo 100000
theorem mE (lo : Int) {v : AV} {l : List Int} (hv : SlI w0 h v l) (hn : l.length < 1000000) : bK Try.prog w0 39 [.int .i64 lo,v] h (.bool (bV lo l)) h := by
 refine aW bB sH xH xG (qE rfl) (by simp [AV.bdd,AV.bdds]) fun hb ha => bJ ?_
 simp only [go_sem,mf39]
 have := zA (w0 := w0) (h := h ++ [some (.row [.int .i64 lo])]) (l.map fun z => [.int .i64 z]) v (.fn (.func 68) [] [.ptr (.own h.length 0)]) (fun j => inB (l.getD j 0) lo 100000) (hv.app) (fun c hc => by
  obtain ⟨z,_,rfl⟩ := List.mem_map.1 hc; rfl) (by simpa using hn) (fun j c hc _ L => by
  rw [List.getElem?_map] at hc
  obtain ⟨z,hz,rfl⟩ := qD.1 hc
  have hj := aT hz
  have : l.getD j 0 = z := by rw [kD hj]; rw [qA hj] at hz; exact Option.some.inj hz
  rw [this]
  have c1 := qV (w0 := w0) (h := h ++ [some (.row [.int .i64 lo])] ++ L) (p := .own h.length 0) z lo (by rw [List.append_assoc]; simp [rd])
  exact bK.vc (P := Try.prog) (first := []) (capt := [.ptr (.own h.length 0)]) c1)
 rw [List.length_map,eW 0 (p := fun x => inB x lo 100000)] at this
 refine aP this.v ?_
 simp only [go_sem]
 rfl
structure dB where
 dock : Int
 plane : Int
 people : Int
 jackets : Int
@[go_sem] def dB.c (s : dB) : List AV := [.int .i64 s.dock,.int .i64 s.plane,.int .i64 s.people,.int .i64 s.jackets]
@[simp] theorem dB.c_bdd (N : Nat) (s : dB) : AV.bdds N s.c := by simp [dB.c,AV.bdds,AV.bdd]
def eH (nd planes : Int) (e : dB) : Bool := inB e.dock 0 (nd - 1) && (inB e.plane 0 (planes - 1) && bV (-100000) [e.people,e.jackets])
theorem yQ (e : dB) {dv : AV} {nd : Nat} {planes : Int} {p q : Pl} (hp : rd w0 h p = some dv) (hd : nD dv = some (.int .i64 nd)) (hq : rd w0 h q = some (.int .i64 planes)) (hn : nd < 1000000) :
 bK Try.prog w0 37 [.agg e.c,.ptr p,.ptr q] h (.bool (eH nd (wi (planes - 1) + 1) e)) h := by
 refine aW bB sJ xL xK (qE rfl) (by simp [AV.bdd,AV.bdds]) fun hb ha => bJ ?_
 have e1 : ∀ L,rd w0 (h ++ L) p = some dv := fun L => iY hp
 have e2 : ∀ L,rd w0 (h ++ L) q = some (.int .i64 planes) := fun L => iY hq
 have w1 : wi ((nd : Int) - 1) = nd - 1 := iA (by unfold I64; omega)
 have e3 : wi (planes - 1) + 1 - 1 = wi (planes - 1) := by omega
 simp only [go_sem,mf37,e1,e2,hd,w1]
 refine aP (in_c e.dock 0 (nd - 1)).v ?_
 simp only [go_sem,e1,e2,hd]
 refine ⟨fun a => ?_,fun a => by simp [eH,a]⟩
 refine aP (in_c e.plane 0 (wi (planes - 1))).v ?_
 simp only [go_sem]
 refine ⟨fun b => ?_,fun b => by simp [eH,a,b,e3]⟩
 have hs : SlI w0 (h ++ [some (.row [.int .i64 e.dock,.int .i64 e.plane,.int .i64 e.people,.int .i64 e.jackets]),some (.row [.int .i64 e.people,.int .i64 e.jackets])]) (.sl (.own (h.length + 1) 0) 2 1 true) [e.people,e.jackets] := by
  refine jI (rows := [[.int .i64 e.people],[.int .i64 e.jackets]]) ?_ (fun c hc => ?_)
  · rw [qI (by omega)]; simp
  · simp at hc; rcases hc with rfl | rfl <;> rfl
 refine aP (mE (-100000) hs (by simp)).v ?_
 simp only [go_sem]
 simp [eH,a,b,e3]
end Go.Proofs.Ab
namespace Go.Proofs.Ab
open Go Go.Proofs
structure cD where
 people : Int
 jackets : Int
@[go_sem] def cD.c (s : cD) : List AV := [.int .i64 s.people,.int .i64 s.jackets]
def eN (b : List cD) (i : Int) : cD := b.getD i.toNat ⟨0,0⟩
def gU (b : List cD) (e : dB) : cD := ⟨(eN b e.plane).people + e.people,(eN b e.plane).jackets + e.jackets⟩
def lE (b : List cD) (l : List Int) (e : dB) : Bool := decide ((gU b e).people < 0) || (decide ((gU b e).jackets < 0) || (decide (l.getD e.dock.toNat 0 < e.jackets) || decide ((gU b e).people ≠ (gU b e).jackets)))
def cgo : List dB → Int → List cD → List Int → Int × List cD × List Int
 | [],_,b,l => (-1,b,l)
 | e :: r,i,b,l => if lE b l e then (i,b,l) else cgo r (i + 1) (b.set e.plane.toNat (gU b e)) (l.set e.dock.toNat (l.getD e.dock.toNat 0 - e.jackets))
def cJ (docks : List Int) (planes : Nat) (evs : List dB) : Int × List cD × List Int := cgo evs 0 (List.replicate planes ⟨0,0⟩) docks
def bL (docks : List Int) (planes : Int) (evs : List dB) : Bool := evs.all (eH docks.length (wi (planes - 1) + 1)) && (inB docks.length 1 6 && (bV 0 docks && inB planes 0 6))
theorem hO {docks : List Int} {planes : Int} {evs : List dB} (h : bL docks planes evs = true) : ∃ p : Nat,planes = p ∧ p ≤ 6 ∧ (∀ e ∈ evs,eH docks.length p e = true) ∧ (1 ≤ docks.length ∧ docks.length ≤ 6) ∧ ∀ x ∈ docks,0 ≤ x ∧ x ≤ 100000 := by
 simp only [bL,Bool.and_eq_true,List.all_eq_true,bV,inB,decide_eq_true_eq] at h
 obtain ⟨h1,h2,h3,h4⟩ := h
 obtain ⟨p,rfl⟩ : ∃ p : Nat,planes = p := ⟨planes.toNat,by omega⟩
 rw [iA (by unfold I64; omega),Int.sub_add_cancel] at h1
 exact ⟨p,rfl,by omega,h1,by omega,h3⟩
end Go.Proofs.Ab
namespace Go.Proofs.Ab
open Go Go.Proofs
variable {w0 : World} {h : aA}
attribute [local irreducible] ACall aU cN bK dR rvC lp rg dr ex un rv
theorem aBJ {v : AV} {l : List Int} (hv : SlI w0 h v l) (hn : l.length < 1000000) (hne : l ≠ []) : ACall Try.prog w0 40 [v] h fun y H => y = .sl (.own (h.length + 1) 0) l.length 1 false ∧ H = h ++ [some (.row []),some (.row (iis l))] := by
 refine cZ bB sG xF xE (qE rfl) fun hb ha => bJ ?_
 have hv' := hv
 rcases hv with ⟨h1,h2⟩ | ⟨q,f,⟨es',h1,h4⟩,h2,h3⟩
 · simp at h2; exact absurd h2 hne
 rw [List.length_map] at h1
 subst h1
 simp only [go_sem,mf40]
 have hflat : (l.map fun z => [AV.int .i64 z]).flatten = iis l := by
  clear hv' h3 ha hne hn
  induction l with
  | nil => rfl
  | cons x r ih => simp only [List.map_cons,List.flatten_cons,ih]; rfl
 have hall : rdn w0 h q (l.length * 1) = some (iis l) := by
  have := Sl.all (w0 := w0) (H := h) (es := 1) (p := q) (rows := l.map fun z => [AV.int .i64 z]) (by simpa using hne) h3
  rwa [List.length_map,hflat] at this
 have hl0 : l.length ≠ 0 := fun e => hne (List.length_eq_zero_iff.1 e)
 have hone : (iis l).all one = true := List.all_eq_true.2 fun x hx => by
  simp only [iis,List.mem_map] at hx
  obtain ⟨z,_,rfl⟩ := hx; rfl
 have hap : dU w0 (h ++ [some (.row [])]) 1 8 (.sl (.own h.length 0) 0 1 true) (.sl q l.length es' f) = some (.sl (.own (h.length + 1) 0) l.length 1 false,h ++ [some (.row []),some (.row (iis l))]) := by
  have r1 : rdn w0 (h ++ [some (.row [])]) q (l.length * 1) = some (iis l) := cO hall
  have r2 : rdn w0 (h ++ [some (.row [])]) (.own h.length 0) (0 * 1) = some [] := by simp [rdn]
  simp only [dU,fD,h4,if_true,r1,Option.map_some,Option.bind_some]
  rw [if_neg hl0,if_pos ⟨by simp [fI],by omega,hone⟩,r2]
  simp [eG]
 rw [hap]
 have hbb : ∀ N,AV.bdds N (iis l) := fun N => aL.2 fun x hx => by
  simp only [iis,List.mem_map] at hx
  obtain ⟨z,_,rfl⟩ := hx; exact trivial
 have hbh : HB (h ++ [some (.row []),some (.row (iis l))]) := rH hb (by
  intro b hb
  simp only [List.mem_cons,Option.some.injEq,List.not_mem_nil,or_false] at hb
  rcases hb with rfl | rfl
  · exact aL.1 trivial
  · exact aL.1 (hbb _))
 simp only [go_sem]
 exact ⟨_,[],(List.append_nil _).symm,by simp,hbh,by simp [AV.bdd,Pl.bdd],rfl⟩
end Go.Proofs.Ab
namespace Go.Proofs.Ab
open Go Go.Proofs
theorem rP (l : List Int) (i : Nat) (x : Int) (hi : i < l.length) : (l.set i x).sum = l.sum - l.getD i 0 + x := by
 induction l generalizing i with
 | nil => simp at hi
 | cons a r ih =>
  cases i with
  | zero => simp; omega
  | succ i => simp only [List.set_cons_succ,List.sum_cons,List.getD_cons_succ]; rw [ih i (by simpa using hi)]; omega
theorem pN {l : List Int} (h : ∀ x ∈ l,0 ≤ x) : 0 ≤ l.sum := by
 induction l with
 | nil => simp
 | cons a r ih => have := ih fun x hx => h x (by simp [hx]); have := h a (by simp); simp; omega
theorem xY {l : List Int} (h : ∀ x ∈ l,0 ≤ x) : ∀ x ∈ l,x ≤ l.sum := by
 induction l with
 | nil => simp
 | cons a r ih =>
  have h1 := ih fun x hx => h x (by simp [hx])
  have h2 := pN (l := r) fun x hx => h x (by simp [hx])
  have h3 := h a (by simp)
  intro x hx; rcases List.mem_cons.1 hx with rfl | hx
  · simp; omega
  · have := h1 x hx; simp; omega
theorem vQ {l : List Int} {m : Int} (h : ∀ x ∈ l,x ≤ m) : l.sum ≤ l.length * m := by
 induction l with
 | nil => simp
 | cons a r ih => have := ih fun x hx => h x (by simp [hx]); have := h a (by simp); simp [Int.add_mul]; omega
theorem oS {α} {l : List α} {d : α} {i : Nat} (h : i < l.length) : l.getD i d ∈ l := by
 simp [List.getD_eq_getElem?_getD,h]
theorem iR {nd planes : Int} {e : dB} : eH nd planes e = true ↔ (0 ≤ e.dock ∧ e.dock < nd) ∧ (0 ≤ e.plane ∧ e.plane < planes) ∧ (-100000 ≤ e.people ∧ e.people ≤ 100000) ∧ (-100000 ≤ e.jackets ∧ e.jackets ≤ 100000) := by
 simp [eH,inB,bV]; omega
structure J (docks : List Int) (planes : Nat) (b : List cD) (l : List Int) : Prop where
 bl : b.length = planes
 ll : l.length = docks.length
 l0 : ∀ x ∈ l,0 ≤ x
 b0 : ∀ x ∈ b,0 ≤ x.people ∧ x.people = x.jackets
 tot : l.sum + (b.map cD.jackets).sum = docks.sum
theorem J.start {docks : List Int} (h : ∀ x ∈ docks,0 ≤ x) (planes : Nat) : J docks planes (List.replicate planes ⟨0,0⟩) docks :=
 ⟨by simp,rfl,h,by simp,by simp⟩
theorem J.at {docks : List Int} {planes : Nat} {b : List cD} {l : List Int} (s : J docks planes b l) {e : dB} (he : eH docks.length planes e = true) : eN b e.plane ∈ b ∧ l.getD e.dock.toNat 0 ∈ l := by
 obtain ⟨⟨a1,a2⟩,⟨b1,b2⟩,_⟩ := iR.1 he
 exact ⟨oS (by rw [s.bl]; omega),oS (by rw [s.ll]; omega)⟩
theorem J.le {docks : List Int} {planes : Nat} {b : List cD} {l : List Int} (s : J docks planes b l) : (∀ x ∈ l,0 ≤ x ∧ x ≤ docks.sum) ∧ ∀ x ∈ b,0 ≤ x.people ∧ x.people = x.jackets ∧ x.people ≤ docks.sum := by
 have hb : ∀ x ∈ b.map cD.jackets,0 ≤ x := fun x hx => by
  obtain ⟨y,hy,rfl⟩ := List.mem_map.1 hx
  have := s.b0 y hy; omega
 have h1 := pN hb
 have h2 := pN s.l0
 have ht := s.tot
 refine ⟨fun x hx => ⟨s.l0 x hx,?_⟩,fun x hx => ?_⟩
 · have := xY s.l0 x hx; omega
 · have h3 := s.b0 x hx
   have h4 := xY hb _ (List.mem_map_of_mem hx)
   refine ⟨h3.1,h3.2,?_⟩; omega
theorem J.step {docks : List Int} {planes : Nat} {b : List cD} {l : List Int} (s : J docks planes b l) {e : dB} (he : eH docks.length planes e = true) (hbad : lE b l e = false) :
 J docks planes (b.set e.plane.toNat (gU b e)) (l.set e.dock.toNat (l.getD e.dock.toNat 0 - e.jackets)) := by
 obtain ⟨⟨a1,a2⟩,⟨b1,b2⟩,_⟩ := iR.1 he
 simp only [lE,Bool.or_eq_false_iff,decide_eq_false_iff_not,Int.not_lt,Decidable.not_not] at hbad
 obtain ⟨c1,c2,c3,c4⟩ := hbad
 refine ⟨by simp [s.bl],by simp [s.ll],fun x hx => ?_,fun x hx => ?_,?_⟩
 · rcases List.mem_or_eq_of_mem_set hx with hx | rfl
   · exact s.l0 x hx
   · omega
 · rcases List.mem_or_eq_of_mem_set hx with hx | rfl
   · exact s.b0 x hx
   · exact ⟨c1,c4⟩
 · rw [List.map_set,rP _ _ _ (by rw [s.ll]; omega),rP _ _ _ (by simp [s.bl]; omega)]
   have ht := s.tot
   have : (b.map cD.jackets).getD e.plane.toNat 0 = (eN b e.plane).jackets := by
    have : e.plane.toNat < b.length := by rw [s.bl]; omega
    simp [eN,List.getD_eq_getElem?_getD,this]
   rw [this]
   simp only [gU]; omega
theorem oY {docks : List Int} {planes : Nat} : ∀ (evs : List dB) (i : Int) (b : List cD) (l : List Int),J docks planes b l → (∀ e ∈ evs,eH docks.length planes e = true) →
 J docks planes (cgo evs i b l).2.1 (cgo evs i b l).2.2 ∧ ((cgo evs i b l).1 = -1 ∨ i ≤ (cgo evs i b l).1 ∧ (cgo evs i b l).1 < i + evs.length)
 | [],i,b,l,s,_ => ⟨s,.inl rfl⟩
 | e :: r,i,b,l,s,h => by
  rw [cgo]
  split
  · exact ⟨s,.inr ⟨Int.le_refl _,by simp; omega⟩⟩
  · rename_i hb
    have := oY r (i + 1) _ _ (s.step (h e (by simp)) (by simpa using hb)) fun x hx => h x (by simp [hx])
    refine ⟨this.1,this.2.imp id fun x => ⟨by omega,by simp only [List.length_cons]; omega⟩⟩
end Go.Proofs.Ab
namespace Go.Proofs.Ab
open Go Go.Proofs
variable {w0 : World} {h : aA}
attribute [local irreducible] ACall aU cN bK dR rvC lp rg dr ex un rv
theorem qU {α : Type} {a b : List α} (hl : a.length = b.length) (h : ∀ (i : Nat) (x y : α),a[i]? = some x → b[i]? = some y → x = y) : a = b := List.ext_getElem? fun i => by
 by_cases hi : i < a.length
 · have := h i _ _ (qA hi) (qA (hl ▸ hi))
   rw [qA hi,qA (hl ▸ hi),this]
 · rw [List.getElem?_eq_none (by omega),List.getElem?_eq_none (by omega)]
theorem aAe {x y : AV} {a b : List Int} (hx : SlI w0 h x a) (hy : SlI w0 h y b) (hn : a.length < 1000000) : bK Try.prog w0 20 [x,y] h (.bool (decide (a = b))) h := by
 refine aW bB sL xP xO (qE rfl) (by simp [AV.bdd,AV.bdds]) fun hb ha => bJ ?_
 have la := (SlI.use hx).1
 have lb := (SlI.use hy).1
 by_cases hl : a.length = b.length
 · have e1 : ((a.length : Int) != b.length) = false := by simp [hl]
   have e1' : (a.length : Int) = b.length := by omega
   simp only [go_sem,mf20,la,lb,e1,e1']
   refine jA (fun j => [(0,x),(1,y),(5,.int .i64 j)]) (fun j => ∀ u v,a[j]? = some u → b[j]? = some v → u = v) a.length rfl (fun j hj hall ih => ?_) (fun hall => ?_)
   · refine bC bB tJ [0,1,5] L20_0.eq_1 ?_
     obtain ⟨p,i1,r1,r1'⟩ := hx.at_ hj
     obtain ⟨q,i2,r2,r2'⟩ := hy.at_ (hl ▸ hj)
     have e2 : (j : Int) < b.length := by omega
     by_cases e3 : a[j] = b[j]'(hl ▸ hj)
     · simp only [go_sem,la,lb,e1',e2,i1,i2,r1,r2,r1',r2',e3]
       refine ⟨(by unfold I64; omega),ih fun u v hu hv => ?_⟩
       rw [qA hj] at hu
       rw [qA (hl ▸ hj)] at hv
       cases hu; cases hv; exact e3
     · simp only [go_sem,la,lb,e1',e2,i1,i2,r1,r2,r1',r2',e3]
       have : a ≠ b := fun e => e3 (by simp [e])
       simp [this]
   · refine bC bB tJ [0,1,5] L20_0.eq_1 ?_
     have e2 : ¬ (a.length : Int) < a.length := by omega
     have : a = b := qU hl fun i u v hu hv => hall i (aT hu) u v hu hv
     simp only [go_sem,la,e2]
     simp [this]
 · have e1 : ¬ (a.length : Int) = b.length := by omega
   simp only [go_sem,mf20,la,lb,e1]
   have : a ≠ b := fun e => hl (by rw [e])
   simp [this]
theorem eqa_sp (x y z w : Int) : eqaV [true,true] true (.agg [.int .i64 x,.int .i64 y]) (.agg [.int .i64 z,.int .i64 w]) = some (.bool (!(decide (x = z) && decide (y = w)))) := by
 have hc : ∀ x y : Int,ceq true (.int .i64 x) (.int .i64 y) = some (decide (x = y)) := fun x y => by
  by_cases e : x = y <;> simp [ceq,e]
 simp only [eqaV,bX,hc]
 by_cases e1 : x = z <;> by_cases e2 : y = w <;> simp [e1,e2]
def bY (b : List cD) : List AV := (b.map cD.c).flatten
theorem eT (b : List cD) : ∀ c ∈ b.map cD.c,c.length = 2 := fun c hc => by
 obtain ⟨x,_,rfl⟩ := List.mem_map.1 hc; rfl
theorem mL (N : Nat) (b : List cD) : AV.bdds N (bY b) := aL.2 fun x hx => by
 obtain ⟨c,hc,hx⟩ := List.mem_flatten.1 hx
 obtain ⟨y,_,rfl⟩ := List.mem_map.1 hc
 simp only [cD.c,List.mem_cons,List.not_mem_nil,or_false] at hx
 rcases hx with rfl | rfl <;> trivial
theorem sU (N : Nat) (l : List Int) : AV.bdds N (iis l) := aL.2 fun x hx => by
 simp only [iis,List.mem_map] at hx
 obtain ⟨z,_,rfl⟩ := hx; trivial
theorem yW {b : List cD} {i : Int} (h0 : 0 ≤ i) (h1 : i < b.length) : (b.map cD.c)[i.toNat]? = some (eN b i).c := by
 have : i.toNat < b.length := by omega
 simp [eN,List.getD_eq_getElem?_getD,this]
theorem oJ (n : Nat) : dA [.int .i64 0,.int .i64 0] n = bY (List.replicate n ⟨0,0⟩) := by
 induction n with
 | zero => rfl
 | succ n ih => rw [reps_s,ih]; rfl
def fC (w0 : World) (H : aA) (y : AV) (docks : List Int) (planes : Int) (evs : List dB) : Prop :=
 if 100 < evs.length then y = .tup [.int .i64 (-1),.nilS,.nilS,.int .i64 3]
 else if bL docks planes evs = true then ∃ bv lv,y = .tup [.int .i64 (cJ docks planes.toNat evs).1,bv,lv,.int .i64 0] ∧ Sl w0 H 2 bv ((cJ docks planes.toNat evs).2.1.map cD.c) ∧ SlI w0 H lv (cJ docks planes.toNat evs).2.2
 else y = .tup [.int .i64 (-1),.nilS,.nilS,.int .i64 2]
theorem oF {H : aA} {i n : Nat} {b : List cD} {f : Bool} (hi : H[i]? = some (some (.row (bY b)))) (hn : b.length = n) : Sl w0 H 2 (.sl (.own i 0) n 2 f) (b.map cD.c) := by
 have := jI (w0 := w0) (full := f) hi (eT b)
 rwa [List.length_map,hn] at this
theorem wF {H : aA} {i n : Nat} {l : List Int} {f : Bool} (hi : H[i]? = some (some (.row (iis l)))) (hn : l.length = n) : SlI w0 H (.sl (.own i 0) n 1 f) l := by
 have e : iis l = (l.map fun z => [AV.int .i64 z]).flatten := lW l
 have := jI (w0 := w0) (H := H) (es := 1) (io := i) (full := f) (rows := l.map fun z => [AV.int .i64 z]) (by rw [← e]; exact hi) (fun c hc => by obtain ⟨x,_,rfl⟩ := List.mem_map.1 hc; rfl)
 rwa [List.length_map,hn] at this
theorem tS {docks : List Int} {planes : Int} {evs : List dB} {dv ev : AV} (hd : SlI w0 h dv docks) (he : Sl w0 h 4 ev (evs.map dB.c)) (hdn : docks.length ≤ 20) :
 ACall Try.prog w0 16 [dv,.int .i64 planes,ev] h fun y H => aN h H ∧ fC w0 H y docks planes evs := by
 refine cF bB sN xT xS (qE rfl) fun hb ha => bJ ?_
 obtain ⟨hlen,q,hix,hrow,_⟩ := he.use
 rw [List.length_map] at hlen hix
 have hld := (SlI.use hd).1
 have od := Sl.one hd
 simp only [go_sem,mf16,hlen,od.1,od.2]
 by_cases hL : 100 < evs.length
 · have e1 : (evs.length : Int) > 100 := by omega
   simp only [go_sem,e1]
   exact ⟨aN.refl.app,by rw [fC,if_pos hL]⟩
 have e1 : ¬ (evs.length : Int) > 100 := by omega
 obtain ⟨L0,hL0⟩ : ∃ L0 : aA,L0 = [some (.row [dv]),some (.row [.int .i64 planes])] := ⟨_,rfl⟩
 have g1 : ∀ L,(h ++ L0 ++ L)[h.length]? = some (some (.row [dv])) := fun L => by rw [hL0,List.append_assoc]; simp
 have g2 : ∀ L,(h ++ L0 ++ L)[h.length + 1]? = some (some (.row [.int .i64 planes])) := fun L => by rw [hL0,List.append_assoc,qI (by omega)]; simp
 have g1' := g1 []
 have g2' := g2 []
 rw [List.append_nil] at g1' g2'
 simp only [go_sem,e1]
 rw [← hL0]
 have hall := lF (w0 := w0) (h := h ++ L0) (evs.map dB.c) ev (.fn (.func 37) [] [.ptr (.own h.length 0),.ptr (.own (h.length + 1) 0)]) (fun j => eH docks.length (wi (planes - 1) + 1) (evs.getD j ⟨0,0,0,0⟩)) he.app (fun c hc => by
  obtain ⟨z,_,rfl⟩ := List.mem_map.1 hc; rfl) (by rw [List.length_map]; omega) (fun j c hc _ L => by
  rw [List.getElem?_map] at hc
  obtain ⟨z,hz,rfl⟩ := qD.1 hc
  rw [oR hz]
  exact bK.vc (P := Try.prog) (first := []) (capt := [.ptr (.own h.length 0),.ptr (.own (h.length + 1) 0)]) (yQ (w0 := w0) (h := h ++ L0 ++ L) z (by have := g1 L; simp only [rd,this]; rfl) hld (by have := g2 L; simp only [rd,this]; rfl) (by omega)))
 rw [List.length_map,eW] at hall
 refine aP hall.v ?_
 have nope : ∀ H,aN h H → bL docks planes evs = false → aN h H ∧ fC w0 H (.tup [.int .i64 (-1),.nilS,.nilS,.int .i64 2]) docks planes evs := fun H s e => ⟨s,by rw [fC,if_neg hL,if_neg (by simp [e])]⟩
 have s0 : aN h (h ++ L0) := aN.refl.app
 simp only [go_sem,g1',g2',hld]
 refine aP (in_c docks.length 1 6).v ?_
 cases e2 : inB docks.length 1 6 with
 | false =>
  simp only [go_sem]
  exact nope _ s0 (by simp [bL,e2])
 | true =>
 simp only [go_sem,g1',g2']
 refine aP (mE 0 hd.app (by omega)).v ?_
 cases e3 : bV 0 docks with
 | false =>
  simp only [go_sem]
  exact nope _ s0 (by simp [bL,e3])
 | true =>
 simp only [go_sem,g1',g2']
 refine aP (in_c planes 0 6).v ?_
 cases e4 : inB planes 0 6 with
 | false =>
  simp only [go_sem]
  exact nope _ s0 (by simp [bL,e4])
 | true =>
 cases e5 : evs.all (eH docks.length (wi (planes - 1) + 1)) with
 | false =>
  simp only [go_sem]
  exact nope _ s0 (by simp [bL,e5])
 | true =>
 have hE : bL docks planes evs = true := by simp [bL,e2,e3,e4,e5]
 obtain ⟨p,rfl,hp6,hcn,⟨hd1,hd6⟩,hdx⟩ := hO hE
 simp only [go_sem,g1',g2']
 refine aY (ACall.vc (first := []) (args := [dv]) (aBJ (w0 := w0) (h := h ++ L0) hd.app (by omega) (by intro e; rw [e] at hd1; simp at hd1))) ?_
 rintro _ _ ⟨rfl,rfl⟩
 have e6 : (p : Int).toNat ≤ (p : Int).toNat ∧ (p : Int).toNat * (16 + 1) ≤ 1099511627776 := ⟨Nat.le_refl _,by omega⟩
 subst hL0
 have hp0 : (p : Int).toNat = p := rfl
 rw [show (wi ((p : Int) - 1) + 1) = p by rw [iA (by unfold I64; omega)]; omega] at e5
 simp only [go_sem,wS,oJ,hlen,beq_self_eq_true]
 refine ⟨by omega,?_⟩
 have hS := J.start (docks := docks) (fun x hx => (hdx x hx).1) p
 have hsum : docks.sum ≤ 600000 := by
  have := vQ (l := docks) (m := 100000) fun x hx => (hdx x hx).2
  have : (docks.length : Int) * 100000 ≤ 6 * 100000 := Int.mul_le_mul_of_nonneg_right (by omega) (by omega)
  omega
 have vb := he.bdd (Nat.le_refl _)
 have db := hd.bdd (Nat.le_refl _)
 refine kR (S := Nat × List cD × List Int) (F := fun s => [(11,.sl (.own (h.length + 3) 0) docks.length 1 false),(12,.sl (.own (h.length + 4) 0) p 2 true),(44,ev),(45,.int .i64 evs.length),(46,.int .i64 s.1)])
  (H := fun s => h ++ [some (.row [dv]),some (.row [.int .i64 p]),some (.row []),some (.row (iis s.2.2)),some (.row (bY s.2.1))]) (meas := fun s => evs.length - s.1)
  (Inv := fun s => s.1 ≤ evs.length ∧ J docks p s.2.1 s.2.2 ∧ cgo (evs.drop s.1) s.1 s.2.1 s.2.2 = cJ docks p evs) (0,List.replicate p ⟨0,0⟩,docks) ⟨by simp,hS,rfl⟩ rfl rfl ?_
 rintro ⟨j,b,l⟩ ⟨hj,hJ,hc⟩ ih
 simp only at hj hJ hc ih ⊢
 have fin : ∀ (L : aA) (at' : Int),cJ docks p evs = (at',b,l) → aN h (h ++ ([some (.row [dv]),some (.row [.int .i64 p]),some (.row []),some (.row (iis l)),some (.row (bY b))] ++ L)) ∧
  fC w0 (h ++ ([some (.row [dv]),some (.row [.int .i64 p]),some (.row []),some (.row (iis l)),some (.row (bY b))] ++ L)) (.tup [.int .i64 at',.sl (.own (h.length + 4) 0) p 2 true,.sl (.own (h.length + 3) 0) docks.length 1 false,.int .i64 0]) docks p evs := fun L at' e => by
  refine ⟨aN.refl.app,?_⟩
  rw [fC,if_neg hL,if_pos hE,Int.toNat_natCast,e]
  refine ⟨_,_,rfl,oF ?_ hJ.bl,wF ?_ hJ.ll⟩
  · rw [qI (by omega),Nat.add_sub_cancel_left]; rfl
  · rw [qI (by omega),Nat.add_sub_cancel_left]; rfl
 refine bC bB aBP [11,12,44,45,46] L16_0.eq_1 ?_
 by_cases hjl : j < evs.length
 · have e7 : (j : Int) < evs.length := by omega
   obtain ⟨e,hej⟩ : ∃ e,evs[j]? = some e := ⟨_,qA hjl⟩
   have hce := hcn e (List.mem_of_getElem? hej)
   obtain ⟨⟨a1,a2⟩,⟨b1,b2⟩,⟨c1,c2⟩,c3,c4⟩ := iR.1 hce
   have x1 := hix j hjl
   have x2 : ∀ L,rdn w0 (h ++ L) (q.add (j * 4)) 4 = some e.c := fun L => cO (hrow j _ (by rw [List.getElem?_map,hej]; rfl))
   have x3 : ∀ f,dG 2 (.sl (.own (h.length + 4) 0) p 2 f) (some e.plane.toNat) = some (.ptr (.own (h.length + 4) (e.plane.toNat * 2))) := fun f => mZ (by omega)
   have x4 : ∀ f,dG 1 (.sl (.own (h.length + 3) 0) docks.length 1 f) (some e.dock.toNat) = some (.ptr (.own (h.length + 3) e.dock.toNat)) := fun f => by rw [mZ (by omega),Nat.mul_one]
   obtain ⟨r1,r2⟩ : e.plane.toNat * 2 + 2 ≤ (bY b).length ∧ ((bY b).drop (e.plane.toNat * 2)).take 2 = (eN b e.plane).c := by
    have := nG (eT b) (yW b1 (by rw [hJ.bl]; exact b2))
    exact ⟨this.1,this.2.1⟩
   have hLe := hJ.le
   obtain ⟨m1,m2⟩ := hJ.at hce
   obtain ⟨n1,n2,n3⟩ := hLe.2 _ m1
   have n4 := hLe.1 _ m2
   have y1 : (iis l)[e.dock.toNat]? = some (.int .i64 (l.getD e.dock.toNat 0)) := gC (by
    have : e.dock.toNat < l.length := by rw [hJ.ll]; omega
    simp [List.getD_eq_getElem?_getD,this])
   have y2 : wi (l.getD e.dock.toNat 0 - e.jackets) = l.getD e.dock.toNat 0 - e.jackets := iA (by unfold I64; omega)
   have hdrop : evs.drop j = e :: evs.drop (j + 1) := by
    rw [qA hjl,Option.some.injEq] at hej
    rw [List.drop_eq_getElem_cons hjl,hej]
   rw [hdrop,cgo] at hc
   obtain ⟨P,hP⟩ : ∃ P,P = (eN b e.plane).people + e.people := ⟨_,rfl⟩
   obtain ⟨K,hK⟩ : ∃ K,K = (eN b e.plane).jackets + e.jackets := ⟨_,rfl⟩
   have hN : gU b e = ⟨P,K⟩ := by rw [gU,hP,hK]
   have hbad : lE b l e = (decide (P < 0) || (decide (K < 0) || (decide (l.getD e.dock.toNat 0 < e.jackets) || decide (P ≠ K)))) := by rw [lE,hN]
   have iP : I64 P := by unfold I64; omega
   have iK : I64 K := by unfold I64; omega
   have stop : lE b l e = true → aN h (h ++ ([some (.row [dv]),some (.row [.int .i64 p]),some (.row []),some (.row (iis l)),some (.row (bY b))] ++ [some (.row e.c),some (.row [.int .i64 P,.int .i64 K])])) ∧
    fC w0 (h ++ ([some (.row [dv]),some (.row [.int .i64 p]),some (.row []),some (.row (iis l)),some (.row (bY b))] ++ [some (.row e.c),some (.row [.int .i64 P,.int .i64 K])])) (.tup [.int .i64 j,.sl (.own (h.length + 4) 0) p 2 true,.sl (.own (h.length + 3) 0) docks.length 1 false,.int .i64 0]) docks p evs := fun e => by
    rw [if_pos e] at hc
    exact fin _ _ hc.symm
   by_cases q1 : P < 0
   · simp only [go_sem,e7,x1,x2,cH b1,x3,cH a1,x4,r1,r2,y1,← hP,← hK,q1]
     refine ⟨iP,iK,?_⟩
     exact stop (by simp [hbad,q1])
   by_cases q2 : K < 0
   · simp only [go_sem,e7,x1,x2,cH b1,x3,cH a1,x4,r1,r2,y1,← hP,← hK,q1,q2]
     refine ⟨iP,iK,?_⟩
     exact stop (by simp [hbad,q2])
   by_cases q3 : l.getD e.dock.toNat 0 < e.jackets
   · simp only [go_sem,e7,x1,x2,cH b1,x3,cH a1,x4,r1,r2,y1,← hP,← hK,q1,q2,q3]
     refine ⟨iP,iK,?_⟩
     exact stop (by rw [hbad]; simp only [decide_eq_true q3,Bool.true_or,Bool.or_true])
   simp only [go_sem,e7,x1,x2,cH b1,x3,cH a1,x4,r1,r2,y1,← hP,← hK,q1,q2,q3]
   refine ⟨iP,iK,fun q4 => ?_,fun q4 => ?_⟩
   · exact stop (by simp [hbad,q4])
   · have hb0 : lE b l e = false := by rw [hbad]; simp only [decide_eq_false q1,decide_eq_false q2,decide_eq_false q3,decide_eq_false (fun x : P ≠ K => x q4),Bool.or_false]
     rw [if_neg (by simp [hb0])] at hc
     refine ⟨by rw [show (iis l).length = l.length by simp [iis],hJ.ll]; omega,(by unfold I64; omega),?_⟩
     have z1 : (bY b).take (e.plane.toNat * 2) ++ AV.int IntKind.i64 P :: AV.int IntKind.i64 K :: (bY b).drop (e.plane.toNat * 2 + 2) = bY (b.set e.plane.toNat (gU b e)) := by
      have := kW (eT b) (j := e.plane.toNat) (x := cD.c ⟨P,K⟩) (by rw [List.length_map,hJ.bl]; omega) rfl
      rw [bY,bY,hN,List.map_set,← this]; rfl
     rw [z1,y2,iB (by rw [show (iis l).length = l.length by simp [iis],hJ.ll]; omega),kC]
     refine iI 5 hb (by simp [dW,dX,eO,eP,fV,eJ,AV.bdds,AV.bdd,Pl.bdd,cX,mL,sU]; exact AV.bdd_mono (by omega) _ db) (by simp [dW,dX,eO,eP,fV,eJ,AV.bdds,AV.bdd,Pl.bdd,cX]; exact AV.bdd_mono (by omega) _ vb) ?_
     have := ih (j + 1,b.set e.plane.toNat (gU b e),l.set e.dock.toNat (l.getD e.dock.toNat 0 - e.jackets)) ⟨by simp only; omega,hJ.step hce hb0,by simpa using hc⟩ (by simp only; omega)
     simpa using this
 · have e7 : ¬ (j : Int) < evs.length := by omega
   obtain rfl : j = evs.length := by omega
   simp only [go_sem,e7]
   rw [List.drop_length] at hc
   simpa using fin [] (-1) (by rw [← hc]; rfl)
theorem uD {docks : List Int} {planes : Int} {evs : List dB} {dv ev : AV} (hd : SlI w0 h dv docks) (he : Sl w0 h 4 ev (evs.map dB.c)) (hdn : docks.length < 1000000) (hen : evs.length < 1000000) :
 bK Try.prog w0 17 [dv,.int .i64 planes,ev] h (.bool (bL docks planes evs)) h := by
 refine aW bB aBp mf17_b mf17_g (qE rfl) (by simp [AV.bdd,AV.bdds]) fun hb ha => bJ ?_
 obtain ⟨hlen,q,hix,hrow,_⟩ := he.use
 rw [List.length_map] at hlen hix
 have hld := (SlI.use hd).1
 have vb := he.bdd (Nat.le_refl _)
 have db := hd.bdd (Nat.le_refl _)
 simp only [go_sem,mf17]
 refine jA (fun j => [(0,dv),(1,.int .i64 planes),(2,ev),(7,.int .i64 j)]) (fun j => inB (docks.getD j 0) 0 100000 = true) docks.length rfl (fun j hj hall ih => ?_) (fun hall => ?_)
 · refine bC bB tN [0,1,2,7] L17_0.eq_1 ?_
   obtain ⟨p,i1,r1,r1'⟩ := hd.at_ hj
   have e1 : (j : Int) < docks.length := by omega
   simp only [go_sem,hld,e1,i1,r1,r1']
   refine aP (kM docks[j] 0 100000).v ?_
   simp only [go_sem]
   refine ⟨fun a => ?_,fun a => ⟨(by unfold I64; omega),ih (by rw [kD hj]; exact a)⟩⟩
   have : bV 0 docks = false := by
    rw [bV,List.all_eq_false]
    exact ⟨_,qG hj,by simp [a]⟩
   simp [bL,this]
 · refine bC bB tN [0,1,2,7] L17_0.eq_1 ?_
   have e1 : ¬ (docks.length : Int) < docks.length := by omega
   have hc : bV 0 docks = true := by
    rw [bV,← eW 0,List.all_eq_true]
    exact fun j hj => hall j (List.mem_range.1 hj)
   simp only [go_sem,hld,e1]
   refine jA (fun j => [(0,dv),(1,.int .i64 planes),(2,ev),(8,.int .i64 j)]) (fun j => eH docks.length (wi (planes - 1) + 1) (evs.getD j ⟨0,0,0,0⟩) = true) evs.length rfl (fun j hj hall ih => ?_) (fun hall => ?_)
   · refine bC bB tL [0,1,2,8] L17_1.eq_1 ?_
     obtain ⟨e,hej⟩ : ∃ e,evs[j]? = some e := ⟨_,qA hj⟩
     have e2 : (j : Int) < evs.length := by omega
     have x1 := hix j hj
     have x2 : ∀ L,rdn w0 (h ++ L) (q.add (j * 4)) 4 = some e.c := fun L => cO (hrow j _ (by rw [List.getElem?_map,hej]; rfl))
     have x2' := x2 []
     rw [List.append_nil] at x2'
     have w1 : wi ((docks.length : Int) - 1) = docks.length - 1 := iA (by unfold I64; omega)
     have e3 : wi (planes - 1) + 1 - 1 = wi (planes - 1) := by omega
     rw [oR hej] at ih
     have no : eH docks.length (wi (planes - 1) + 1) e = false → bL docks planes evs = false := fun x => by
      have : evs.all (eH docks.length (wi (planes - 1) + 1)) = false := by
       rw [List.all_eq_false]; exact ⟨e,List.mem_of_getElem? hej,by simp [x]⟩
      simp [bL,this]
     simp only [go_sem,hlen,e2,x1,x2,x2',hld,w1]
     refine aP (kM e.dock 0 (docks.length - 1)).v ?_
     cases c1 : inB e.dock 0 (docks.length - 1) with
     | false => simp only [go_sem]; rw [no (by simp [eH,c1])]
     | true =>
     simp only [go_sem]
     refine aP (kM e.plane 0 (wi (planes - 1))).v ?_
     cases c2 : inB e.plane 0 (wi (planes - 1)) with
     | false => simp only [go_sem]; rw [no (by simp [eH,e3,c2])]
     | true =>
     simp only [go_sem]
     refine aP (kM e.people (-100000) 100000).v ?_
     cases c3 : inB e.people (-100000) 100000 with
     | false => simp only [go_sem]; rw [no (by simp [eH,bV,c3])]
     | true =>
     simp only [go_sem]
     refine aP (kM e.jackets (-100000) 100000).v ?_
     cases c4 : inB e.jackets (-100000) 100000 with
     | false => simp only [go_sem]; rw [no (by simp [eH,bV,c4])]
     | true =>
     simp only [go_sem]
     refine ⟨(by unfold I64; omega),iI 0 hb (by simp [HBs]) (by simp [dW,dX,eO,eP,fV,eJ,AV.bdds,AV.bdd,Pl.bdd,cX]; exact ⟨db,vb⟩) ?_⟩
     simpa using ih (by simp [eH,bV,c1,c2,c3,c4,e3])
   · refine bC bB tL [0,1,2,8] L17_1.eq_1 ?_
     have e2 : ¬ (evs.length : Int) < evs.length := by omega
     have hE : evs.all (eH docks.length (wi (planes - 1) + 1)) = true := by
      rw [← eW ⟨0,0,0,0⟩,List.all_eq_true]
      exact fun j hj => hall j (List.mem_range.1 hj)
     simp only [go_sem,hlen,e2,hld]
     refine aP (kM docks.length 1 6).v ?_
     cases c1 : inB docks.length 1 6 with
     | false => simp only [go_sem]; simp [bL,c1]
     | true =>
     simp only [go_sem]
     refine aP (kM planes 0 6).v ?_
     simp only [go_sem]
     simp [bL,c1,hc,hE]
theorem wL {docks : List Int} {planes : Int} {evs : List dB} {dv ev : AV} (hd : SlI w0 h dv docks) (he : Sl w0 h 4 ev (evs.map dB.c)) (hE : bL docks planes evs = true) (hen : evs.length < 1000000) :
 ACall Try.prog w0 18 [dv,.int .i64 planes,ev] h fun y H => aN h H ∧ ∃ bv lv,y = .tup [.int .i64 (cJ docks planes.toNat evs).1,bv,lv] ∧ Sl w0 H 2 bv ((cJ docks planes.toNat evs).2.1.map cD.c) ∧ SlI w0 H lv (cJ docks planes.toNat evs).2.2 := by
 refine cF bB aBo mf18_b mf18_g (qE rfl) fun hb ha => bJ ?_
 obtain ⟨hlen,q,hix,hrow,_⟩ := he.use
 rw [List.length_map] at hlen hix
 have hld := (SlI.use hd).1
 obtain ⟨p,rfl,hp6,hcn,⟨hd1,hd6⟩,hdx⟩ := hO hE
 have hap := yY (w0 := w0) (H := h) (b := 8) hd (by intro e; simp at e; rw [e] at hd1; simp at hd1) (fun c hc => by obtain ⟨x,_,rfl⟩ := List.mem_map.1 hc; rfl) (by omega) (by rw [List.length_map]; omega)
 rw [List.length_map,← lW,show iM docks = iis docks from rfl] at hap
 have e6 : (p : Int).toNat ≤ (p : Int).toNat ∧ (p : Int).toNat * (16 + 1) ≤ 1099511627776 := ⟨Nat.le_refl _,by omega⟩
 have hp0 : (p : Int).toNat = p := rfl
 rw [hp0] at *
 simp only [go_sem,mf18,List.append_nil,hap,wS,oJ,hlen,beq_self_eq_true]
 refine ⟨by omega,?_⟩
 have hS := J.start (docks := docks) (fun x hx => (hdx x hx).1) p
 have hsum : docks.sum ≤ 600000 := by
  have := vQ (l := docks) (m := 100000) fun x hx => (hdx x hx).2
  have : (docks.length : Int) * 100000 ≤ 6 * 100000 := Int.mul_le_mul_of_nonneg_right (by omega) (by omega)
  omega
 have vb := he.bdd (Nat.le_refl _)
 refine kR (S := Nat × List cD × List Int) (F := fun s => [(2,ev),(9,.sl (.own h.length 0) docks.length 1 false),(10,.sl (.own (h.length + 1) 0) p 2 true),(11,.int .i64 s.1)])
  (H := fun s => h ++ [some (.row (iis s.2.2)),some (.row (bY s.2.1))]) (meas := fun s => evs.length - s.1)
  (Inv := fun s => s.1 ≤ evs.length ∧ J docks p s.2.1 s.2.2 ∧ cgo (evs.drop s.1) s.1 s.2.1 s.2.2 = cJ docks p evs) (0,List.replicate p ⟨0,0⟩,docks) ⟨by simp,hS,rfl⟩ rfl rfl ?_
 rintro ⟨j,b,l⟩ ⟨hj,hJ,hc⟩ ih
 simp only at hj hJ hc ih ⊢
 have fin : ∀ (L : aA) (at' : Int),cJ docks p evs = (at',b,l) → aN h (h ++ ([some (.row (iis l)),some (.row (bY b))] ++ L)) ∧
  ∃ bv lv,(AV.tup [.int .i64 at',.sl (.own (h.length + 1) 0) p 2 true,.sl (.own h.length 0) docks.length 1 false]) = .tup [.int .i64 (cJ docks p evs).1,bv,lv] ∧
   Sl w0 (h ++ ([some (.row (iis l)),some (.row (bY b))] ++ L)) 2 bv ((cJ docks p evs).2.1.map cD.c) ∧ SlI w0 (h ++ ([some (.row (iis l)),some (.row (bY b))] ++ L)) lv (cJ docks p evs).2.2 := fun L at' e => by
  refine ⟨aN.refl.app,?_⟩
  rw [e]
  refine ⟨_,_,rfl,oF ?_ hJ.bl,wF ?_ hJ.ll⟩
  · rw [qI (by omega),Nat.add_sub_cancel_left]; rfl
  · rw [qI (by omega),Nat.sub_self]; rfl
 refine bC bB aBO [2,9,10,11] L18_0.eq_1 ?_
 by_cases hjl : j < evs.length
 · have e7 : (j : Int) < evs.length := by omega
   obtain ⟨e,hej⟩ : ∃ e,evs[j]? = some e := ⟨_,qA hjl⟩
   have hce := hcn e (List.mem_of_getElem? hej)
   obtain ⟨⟨a1,a2⟩,⟨b1,b2⟩,⟨c1,c2⟩,c3,c4⟩ := iR.1 hce
   have x1 := hix j hjl
   have x2 : ∀ L,rdn w0 (h ++ L) (q.add (j * 4)) 4 = some e.c := fun L => cO (hrow j _ (by rw [List.getElem?_map,hej]; rfl))
   have x3 : ∀ f,dG 2 (.sl (.own (h.length + 1) 0) p 2 f) (some e.plane.toNat) = some (.ptr (.own (h.length + 1) (e.plane.toNat * 2))) := fun f => mZ (by omega)
   have x4 : ∀ f,dG 1 (.sl (.own h.length 0) docks.length 1 f) (some e.dock.toNat) = some (.ptr (.own h.length e.dock.toNat)) := fun f => by rw [mZ (by omega),Nat.mul_one]
   obtain ⟨r1,r2,r3⟩ : e.plane.toNat * 2 + 2 ≤ (bY b).length ∧ (bY b)[e.plane.toNat * 2]? = some (.int .i64 (eN b e.plane).people) ∧ (bY b)[e.plane.toNat * 2 + 1]? = some (.int .i64 (eN b e.plane).jackets) := by
    have := nG (eT b) (yW b1 (by rw [hJ.bl]; exact b2))
    exact ⟨this.1,this.2.2 0 _ rfl,this.2.2 1 _ rfl⟩
   have hLe := hJ.le
   obtain ⟨m1,m2⟩ := hJ.at hce
   obtain ⟨n1,n2,n3⟩ := hLe.2 _ m1
   have n4 := hLe.1 _ m2
   have y1 : (iis l)[e.dock.toNat]? = some (.int .i64 (l.getD e.dock.toNat 0)) := gC (by
    have : e.dock.toNat < l.length := by rw [hJ.ll]; omega
    simp [List.getD_eq_getElem?_getD,this])
   have y2 : wi (l.getD e.dock.toNat 0 - e.jackets) = l.getD e.dock.toNat 0 - e.jackets := iA (by unfold I64; omega)
   have hdrop : evs.drop j = e :: evs.drop (j + 1) := by
    rw [qA hjl,Option.some.injEq] at hej
    rw [List.drop_eq_getElem_cons hjl,hej]
   rw [hdrop,cgo] at hc
   obtain ⟨P,hP⟩ : ∃ P,P = (eN b e.plane).people + e.people := ⟨_,rfl⟩
   obtain ⟨K,hK⟩ : ∃ K,K = (eN b e.plane).jackets + e.jackets := ⟨_,rfl⟩
   have hN : gU b e = ⟨P,K⟩ := by rw [gU,hP,hK]
   have hbad : lE b l e = (decide (P < 0) || (decide (K < 0) || (decide (l.getD e.dock.toNat 0 < e.jackets) || decide (P ≠ K)))) := by rw [lE,hN]
   have iP : I64 P := by unfold I64; omega
   have iK : I64 K := by unfold I64; omega
   have stop := fun (e1 : lE b l e = true) => fin [some (.row e.c),some (.row [.int .i64 P,.int .i64 K])] j (by rw [if_pos e1] at hc; exact hc.symm)
   by_cases q1 : P < 0
   · simp only [go_sem,hlen,e7,x1,x2,cH b1,x3,cH a1,x4,r1,r2,r3,y1,← hP,← hK,q1]
     refine ⟨iP,iK,?_⟩
     exact stop (by simp [hbad,q1])
   by_cases q2 : K < 0
   · simp only [go_sem,hlen,e7,x1,x2,cH b1,x3,cH a1,x4,r1,r2,r3,y1,← hP,← hK,q1,q2]
     refine ⟨iP,iK,?_⟩
     exact stop (by simp [hbad,q2])
   by_cases q3 : l.getD e.dock.toNat 0 < e.jackets
   · simp only [go_sem,hlen,e7,x1,x2,cH b1,x3,cH a1,x4,r1,r2,r3,y1,← hP,← hK,q1,q2,q3]
     refine ⟨iP,iK,?_⟩
     exact stop (by rw [hbad]; simp only [decide_eq_true q3,Bool.true_or,Bool.or_true])
   simp only [go_sem,hlen,e7,x1,x2,cH b1,x3,cH a1,x4,r1,r2,r3,y1,← hP,← hK,q1,q2,q3]
   refine ⟨iP,iK,fun q4 => ?_,fun q4 => ?_⟩
   · exact stop (by simp [hbad,q4])
   · have hb0 : lE b l e = false := by rw [hbad]; simp only [decide_eq_false q1,decide_eq_false q2,decide_eq_false q3,decide_eq_false (fun x : P ≠ K => x q4),Bool.or_false]
     rw [if_neg (by simp [hb0])] at hc
     refine dr_fp bB [0,1,2,3,4,5,6,7,8,9,10,11,12,13,14,15,16,17,18] [o_ 75 (m_ 10),o_ 76 (.addr (.t 12) 1),o_ 77 (l_ 76),o_ 78 (m_ 9),o_ 79 (.addr (.t 12) 0),o_ 80 (l_ 79),o_ 81 (.load (.t 13) (some 2)),o_ 82 (m_ 9),o_ 83 (.addr (.t 12) 0),o_ 84 (l_ 83),o_ 85 (.idxs 1 (.t 82) (.t 84)),o_ 86 (l_ 85),o_ 87 (.addr (.t 12) 3),o_ 88 (l_ 87),o_ 89 (.bin .sub (.t 86) (.t 88)),o_ 90 (.idxs 2 (.t 75) (.t 77)),.op none none (.store (.t 90) (.t 81) 2)] [([(5,o_ 80 (l_ 79)),(13,o_ 88 (l_ 87))],[o_ 91 (.idxs 1 (.t 78) (.t 80)),.op none none (.store (.t 91) (.t 89) 1)])] rfl rfl (by kernel_rfl) ?_
     simp only [go_sem,x3,x4,cH a1,cH b1,y1,y2,r1]
     refine ⟨by rw [show (iis l).length = l.length by simp [iis],hJ.ll]; omega,(by unfold I64; omega),?_⟩
     have z1 : (bY b).take (e.plane.toNat * 2) ++ AV.int IntKind.i64 P :: AV.int IntKind.i64 K :: (bY b).drop (e.plane.toNat * 2 + 2) = bY (b.set e.plane.toNat (gU b e)) := by
      have := kW (eT b) (j := e.plane.toNat) (x := cD.c ⟨P,K⟩) (by rw [List.length_map,hJ.bl]; omega) rfl
      rw [bY,bY,hN,List.map_set,← this]; rfl
     rw [z1,iB (by rw [show (iis l).length = l.length by simp [iis],hJ.ll]; omega),kC]
     refine iI 2 hb (by simp [dW,dX,eO,eP,fV,eJ,AV.bdds,AV.bdd,Pl.bdd,cX,mL,sU]) (by simp [dW,dX,eO,eP,fV,eJ,AV.bdds,AV.bdd,Pl.bdd,cX]; exact AV.bdd_mono (by omega) _ vb) ?_
     have := ih (j + 1,b.set e.plane.toNat (gU b e),l.set e.dock.toNat (l.getD e.dock.toNat 0 - e.jackets)) ⟨by simp only; omega,hJ.step hce hb0,by simpa using hc⟩ (by simp only; omega)
     simpa using this
 · have e7 : ¬ (j : Int) < evs.length := by omega
   obtain rfl : j = evs.length := by omega
   simp only [go_sem,hlen,e7]
   rw [List.drop_length] at hc
   simpa using fin [] (-1) (by rw [← hc]; rfl)
end Go.Proofs.Ab
namespace Go.Proofs.Ab
open Go Go.Proofs
variable {w : World} {h : aA} {cs : List Value}
theorem int_of {v : Value} (g : Gd w (.int .nil) [v]) : ∃ n : Int,inj v = .int .i64 n ∧ I64 n := by
 obtain ⟨n,_,e,h,rfl⟩ := g
 cases e; exact ⟨n,rfl,h⟩
theorem aBw {v : Value} (g : Gd w (.sl (.int .nil) .nil) [v]) : ∃ l : List Int,SlI w h (inj v) l ∧ l.length ≤ 9223372036854775807 := by
 obtain ⟨_,_,e,h,rfl⟩ := g
 cases e; exact aBD h
def qM : Rw := .int (.int (.int (.int .nil)))
theorem aBE (g : Gd w qM cs) : ∃ a b c d : Int,cs.map inj = [.int .i64 a,.int .i64 b,.int .i64 c,.int .i64 d] ∧ I64 a ∧ I64 b ∧ I64 c ∧ I64 d := by
 obtain ⟨a,_,rfl,h1,b,_,rfl,h2,c,_,rfl,h3,d,_,rfl,h4,rfl⟩ := g
 exact ⟨a,b,c,d,rfl,h1,h2,h3,h4⟩
theorem aBI {v : Value} (g : Gd w (.sl qM .nil) [v]) : ∃ l : List dB,Sl w h 4 (inj v) (l.map dB.c) ∧ l.length ≤ 9223372036854775807 := by
 obtain ⟨_,_,e,h,rfl⟩ := g
 cases e
 exact oE dB.c rfl h fun _ g => by
  obtain ⟨a,b,c,d,e,_⟩ := aBE g
  exact ⟨⟨a,b,c,d⟩,e⟩
end Go.Proofs.Ab
namespace Go.Proofs.Ab
open Go Go.Proofs
variable {w0 : World} {h : aA}
attribute [local irreducible] ACall aU cN bK dR rvC lp rg dr ex un rv
theorem uG {x y : AV} {a : List cD} (hx : Sl w0 h 2 x (a.map cD.c)) (hy : Sl w0 h 2 y (a.map cD.c)) (hn : a.length < 1000000) : bK Try.prog w0 19 [x,y] h (.bool true) h := by
 refine aW bB sM xR xQ (qE rfl) (by simp [AV.bdd,AV.bdds]) fun hb ha => bJ ?_
 obtain ⟨la,q1,ix1,rw1,_⟩ := hx.use
 obtain ⟨lb,q2,ix2,rw2,_⟩ := hy.use
 rw [List.length_map] at la lb ix1 ix2
 simp only [go_sem,mf19,la,lb]
 refine jA (fun j => [(0,x),(1,y),(5,.int .i64 j)]) (fun j => True) a.length rfl (fun j hj hall ih => ?_) (fun hall => ?_)
 · refine bC bB tK [0,1,5] L19_0.eq_1 ?_
   have i1 := ix1 j hj
   have i2 := ix2 j hj
   have hr : (a.map cD.c)[j]? = some a[j].c := by rw [List.getElem?_map,qA hj]; rfl
   have r1 : ∀ L,rdn w0 (h ++ L) (q1.add (j * 2)) 2 = some a[j].c := fun L => cO (rw1 j _ hr)
   have r2 : ∀ L,rdn w0 (h ++ L) (q2.add (j * 2)) 2 = some a[j].c := fun L => cO (rw2 j _ hr)
   have e2 : (j : Int) < a.length := by omega
   simp only [go_sem,la,e2,i1,i2,r1,r2,rw1 j _ hr,rw2 j _ hr,eqa_sp,Bool.and_self,Bool.not_true]
   refine ⟨(by unfold I64; omega),ih trivial⟩
 · refine bC bB tK [0,1,5] L19_0.eq_1 ?_
   have e2 : ¬ (a.length : Int) < a.length := by omega
   simp only [go_sem,la,e2]
theorem nU {docks : List Int} {planes : Int} {evs : List dB} {dv ev : AV} (hd : SlI w0 h dv docks) (he : Sl w0 h 4 ev (evs.map dB.c)) (hdn : docks.length ≤ 9223372036854775807) (hen : evs.length ≤ 9223372036854775807) :
 bK Try.prog w0 5 [dv,.int .i64 planes,ev] h (.bool true) h := by
 refine nV trivial (cF bB mf5_ok mf5_b mf5_g (qE rfl) fun hb ha => bJ ?_)
 have hld := (SlI.use hd).1
 have hle : nD ev = some (.int .i64 evs.length) := by have := he.use.1; rwa [List.length_map] at this
 have fin : ∀ {H : aA},aN h H → ∀ {K},K → K ∧ aN h H := fun s _ k => ⟨k,s⟩
 by_cases q1 : (docks.length : Int) > 20
 · simp only [go_sem,mf5,hld,hle,q1]
   refine aP gB.v ?_
   simp only [go_sem]
   exact aN.refl.app
 by_cases q2 : (evs.length : Int) > 30
 · by_cases q3 : (evs.length : Int) ≤ 100
   · simp only [go_sem,mf5,hld,hle,q1,q2,q3]
     refine aP gB.v ?_
     simp only [go_sem]
     exact aN.refl.app
   by_cases q4 : (evs.length : Int) > 110
   · simp only [go_sem,mf5,hld,hle,q1,q2,q3,q4]
     refine aP gB.v ?_
     simp only [go_sem]
     exact aN.refl.app
   simp only [go_sem,mf5,hld,hle,q1,q2,q3,q4]
   refine aY (ACall.vc (first := []) (args := [dv,.int .i64 planes,ev]) (tS hd.app he.app (by omega))) ?_
   rintro y H1 ⟨s1,k1⟩
   rw [fC,if_pos (by omega)] at k1
   subst k1
   have e5 : (evs.length : Int) > 100 := by omega
   simp only [go_sem,hle,e5]
   refine ⟨(by unfold I64; omega),?_⟩
   refine aP gB.v ?_
   simp only [go_sem]
   exact aN.trans aN.refl.app s1
 · have q4 : ¬ (evs.length : Int) > 110 := by omega
   have e5 : ¬ (evs.length : Int) > 100 := by omega
   simp only [go_sem,mf5,hld,hle,q1,q2,q4]
   rw [List.append_nil]
   refine aY (ACall.vc (first := []) (args := [dv,.int .i64 planes,ev]) (tS hd he (by omega))) ?_
   rintro y H1 ⟨s1,k1⟩
   rw [fC,if_neg (by omega)] at k1
   have hE := uD (planes := planes) (Sl.sub hd s1) (Sl.sub he s1) (by omega) (by omega)
   cases e6 : bL docks planes evs with
   | false =>
    rw [if_neg (by simp [e6])] at k1
    subst k1
    simp only [go_sem,hle,e5]
    refine aP hE.v ?_
    rw [e6]
    simp only [go_sem]
    refine ⟨(by unfold I64; omega),?_⟩
    refine aP gB.v ?_
    simp only [go_sem]
    exact s1
   | true =>
    rw [if_pos e6] at k1
    obtain ⟨bv,lv,rfl,hbv,hlv⟩ := k1
    simp only [go_sem,hle,e5]
    refine aP hE.v ?_
    rw [e6]
    simp only [go_sem]
    refine aY (ACall.vc (first := []) (args := [dv,.int .i64 planes,ev]) (wL (Sl.sub hd s1) (Sl.sub he s1) e6 (by omega))) ?_
    rintro z H2 ⟨s2,bv2,lv2,rfl,hbv2,hlv2⟩
    obtain ⟨p,rfl,hp6,hcn,⟨hd1,hd6⟩,hdx⟩ := hO e6
    have hJ := (oY (docks := docks) (planes := p) evs 0 _ _ (J.start (fun x hx => (hdx x hx).1) p) hcn).1
    have l1 : (cJ docks p evs).2.1.length < 1000000 := by have := hJ.bl; rw [cJ]; omega
    have l2 : (cJ docks p evs).2.2.length < 1000000 := by have := hJ.ll; rw [cJ]; omega
    simp only [go_sem]
    refine aP (uG (hbv.sub s2) hbv2 l1).v ?_
    simp only [go_sem]
    refine aP (aAe (Sl.sub hlv s2) hlv2 l2).v ?_
    simp only [go_sem]
    refine aP gB.v ?_
    simp only [go_sem]
    exact s1.trans s2
end Go.Proofs.Ab

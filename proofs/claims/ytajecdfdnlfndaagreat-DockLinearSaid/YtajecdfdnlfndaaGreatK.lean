/- The own layer under the proofs of this seat, part K: what calls of the program come to on an abstract heap. No condition. -/
import Derived.Test.YtajecdfdnlfndaaGreatJ
import Derived.Test.YtajecdfdnlfndaaGreatG
set_option linter.unusedSimpArgs false
set_option linter.unusedVariables false
namespace Go.Proofs.Ab
open Go Go.Proofs
variable {w0 : World} {h : Heap}
attribute [local irreducible] ACall aR bY bD cO rvC lp rg dr ex un rv
theorem rI (x lo hi : Int) : bD Tryz.prog w0 97 [.int .i64 x,.int .i64 lo,.int .i64 hi] h (.bool (inB x lo hi)) h := by
 refine bC aV uW aAr aAq (qE rfl) (by simp [AV.bdd,AV.bdds]) fun hb ha => aZ ?_
 simp only [go_sem,mf97]
 exact ⟨fun a => by simp [inB,a],fun a => by simp [inB,a]⟩
theorem lJ (x lo hi : Int) : bD Tryz.prog w0 82 [.int .i64 x,.int .i64 lo,.int .i64 hi] h (.bool (inB x lo hi)) h := by
 refine bC aV aCt mf82_b mf82_g (qE rfl) (by simp [AV.bdd,AV.bdds]) fun hb ha => aZ ?_
 simp only [go_sem,mf82]
 exact ⟨fun a => by simp [inB,a],fun a => by simp [inB,a]⟩
theorem aAg {es i n j : Nat} {f : Bool} (h : j < n) : dP es (.sl (.own i 0) n es f) (some j) = some (.ptr (.own i (j * es))) := by simp [dP,gK,Pl.add,h]
theorem bS {n : Nat} : (if (0 : Int) ≤ (n : Int) then some (n : Int).toNat else none) = some n := by rw [if_pos (by omega),Int.toNat_natCast]
theorem mV (rows : List (List AV)) (v fv : AV) (p : Nat → Bool) (hv : Sl w0 h 7 v rows) (ho : ∀ c ∈ rows,c.all one = true) (hn : rows.length < 1000000)
 (hf : ∀ (j : Nat) c,rows[j]? = some c → (∀ i,i < j → p i = true) → ∀ L,cO Tryz.prog w0 fv [.agg c] (h ++ L) (.bool (p j)) (h ++ L)) : bD Tryz.prog w0 132 [v,fv] h (.bool ((List.range rows.length).all p)) h := by
 refine bC aV rA vT vS (qE rfl) (by simp [AV.bdd,AV.bdds]) fun hb ha => aZ ?_
 have hfb : fv.bdd h.length := by simp only [AV.bdds] at ha; exact ha.2.1
 obtain ⟨hlen,q,hix,hrow,_⟩ := hv.use
 have vb := hv.bdd (Nat.le_refl _)
 simp only [go_sem,mf132,hlen]
 refine gF (fun j => [(1,fv),(7,v),(8,.int .i64 rows.length),(9,.int .i64 j)]) (fun j => p j = true) rows.length rfl (fun j hj hall ih => ?_) (fun hall => ?_)
 · refine aY aV sD [1,7,8,9] L132_0.eq_1 ?_
   have e1 := hix j hj
   have e3 : (j : Int) < rows.length := by omega
   obtain ⟨c,hc⟩ : ∃ c,rows[j]? = some c := ⟨_,qA hj⟩
   have hl : c.length = 7 := (aCe (hrow j _ hc)).1
   have e2 : ∀ L,rdn w0 (h ++ L) (q.add (j * 7)) 7 = some c := fun L => eO (hrow j _ hc)
   have ho := ho c (List.mem_of_getElem? hc)
   obtain ⟨x0,x1,x2,x3,x4,x5,x6,rfl⟩ : ∃ x0 x1 x2 x3 x4 x5 x6,c = [x0,x1,x2,x3,x4,x5,x6] := by
    match c,hl with
    | [x0,x1,x2,x3,x4,x5,x6],_ => exact ⟨x0,x1,x2,x3,x4,x5,x6,rfl⟩
   simp only [go_sem,e1,e2,e3,ho]
   refine aI (by simpa using hf j _ hc hall [some (.row [x0,x1,x2,x3,x4,x5,x6])]) ?_
   simp only [go_sem]
   refine ⟨fun e => ?_,fun e => ⟨(by unfold I64; omega),?_⟩⟩
   · have : (List.range rows.length).all p = false := by
      rw [List.all_eq_false]; exact ⟨j,List.mem_range.2 hj,by simp [e]⟩
     rw [this]
   · refine fR 0 hb (by simp [HBs]) (by simp [cM,cT,cY,dS,eZ,dJ,AV.bdds,AV.bdd,Pl.bdd,cE]; exact ⟨hfb,vb⟩) ?_
     simpa using ih e
 · refine aY aV sD [1,7,8,9] L132_0.eq_1 ?_
   have e3 : ¬ (rows.length : Int) < rows.length := by omega
   simp only [go_sem,e3]
   have : (List.range rows.length).all p = true := by rw [List.all_eq_true]; exact fun x hx => hall x (List.mem_range.1 hx)
   rw [this]
structure CntD where
 dock : Int
 plane : Int
 people : Int
 jackets : Int
@[go_sem] def CntD.c (s : CntD) : List AV := [.int .i64 s.dock,.int .i64 s.plane,.int .i64 s.people,.int .i64 s.jackets]
@[simp] theorem CntD.c_bdd (N : Nat) (s : CntD) : AV.bdds N s.c := by simp [CntD.c,AV.bdds,AV.bdd]
end Go.Proofs.Ab
namespace Go.Proofs.Ab
open Go Go.Proofs
structure BrdD where
 people : Int
 jackets : Int
@[go_sem] def BrdD.c (s : BrdD) : List AV := [.int .i64 s.people,.int .i64 s.jackets]
end Go.Proofs.Ab
namespace Go.Proofs.Ab
open Go Go.Proofs
variable {w0 : World} {h : Heap}
attribute [local irreducible] ACall aR bY bD cO rvC lp rg dr ex un rv
end Go.Proofs.Ab
namespace Go.Proofs.Ab
open Go Go.Proofs
variable {w0 : World} {h : Heap}
end Go.Proofs.Ab
namespace Go.Proofs.Ab
open Go Go.Proofs
variable {w0 : World} {h : Heap}
attribute [local irreducible] ACall aR bY bD cO rvC lp rg dr ex un rv
theorem tQ {α : Type} {a b : List α} (hl : a.length = b.length) (h : ∀ (i : Nat) (x y : α),a[i]? = some x → b[i]? = some y → x = y) : a = b := List.ext_getElem? fun i => by
 by_cases hi : i < a.length
 · have := h i _ _ (qA hi) (qA (hl ▸ hi))
   rw [qA hi,qA (hl ▸ hi),this]
 · rw [List.getElem?_eq_none (by omega),List.getElem?_eq_none (by omega)]
theorem aB9 {x y : AV} {a b : List Int} (hx : SlI w0 h x a) (hy : SlI w0 h y b) (hn : a.length < 1000000) : bD Tryz.prog w0 21 [x,y] h (.bool (decide (a = b))) h := by
 refine bC aV uZ aAx aAw (qE rfl) (by simp [AV.bdd,AV.bdds]) fun hb ha => aZ ?_
 have la := (SlI.use hx).1
 have lb := (SlI.use hy).1
 by_cases hl : a.length = b.length
 · have e1 : ((a.length : Int) != b.length) = false := by simp [hl]
   have e1' : (a.length : Int) = b.length := by omega
   simp only [go_sem,mf21,la,lb,e1,e1']
   refine gF (fun j => [(0,x),(1,y),(5,.int .i64 j)]) (fun j => ∀ u v,a[j]? = some u → b[j]? = some v → u = v) a.length rfl (fun j hj hall ih => ?_) (fun hall => ?_)
   · refine aY aV wZ [0,1,5] L21_0.eq_1 ?_
     obtain ⟨p,i1,r1,r1'⟩ := hx.at_ hj
     obtain ⟨q,i2,r2,r2'⟩ := hy.at_ (hl ▸ hj)
     have e2 : (j : Int) < b.length := by omega
     by_cases e3 : a[j] = b[j]'(hl ▸ hj)
     · simp only [go_sem,la,lb,e1',e2,i1,i2,r1,r2,r1',r2',e3]
       refine ⟨(by unfold I64; omega),ih fun u v hu hv => ?_⟩
       rw [qA hj] at hu
       rw [qA (hl ▸ hj)] at hv
       cases hu; cases hv; exact e3
     · simp only [go_sem,la,lb,e1',e2,i1,i2,r1,r2,r1',r2',e3]
       have : a ≠ b := fun e => e3 (by simp [e])
       simp [this]
   · refine aY aV wZ [0,1,5] L21_0.eq_1 ?_
     have e2 : ¬ (a.length : Int) < a.length := by omega
     have : a = b := tQ hl fun i u v hu hv => hall i (aJ hu) u v hu hv
     simp only [go_sem,la,e2]
     simp [this]
 · have e1 : ¬ (a.length : Int) = b.length := by omega
   simp only [go_sem,mf21,la,lb,e1]
   have : a ≠ b := fun e => hl (by rw [e])
   simp [this]
end Go.Proofs.Ab
namespace Go.Proofs.Ab
open Go Go.Proofs
variable {w : World} {h : Heap} {cs : List Value}
theorem int_of {v : Value} (g : Gd w (.int .nil) [v]) : ∃ n : Int,inj v = .int .i64 n ∧ I64 n := by
 obtain ⟨n,_,e,h,rfl⟩ := g
 cases e; exact ⟨n,rfl,h⟩
theorem aD1 {v : Value} (g : Gd w (.sl (.int .nil) .nil) [v]) : ∃ l : List Int,SlI w h (inj v) l ∧ l.length ≤ 9223372036854775807 := by
 obtain ⟨_,_,e,h,rfl⟩ := g
 cases e; exact aD8 h
end Go.Proofs.Ab
namespace Go.Proofs.Ab
open Go Go.Proofs
variable {w0 : World} {h : Heap}
attribute [local irreducible] ACall aR bY bD cO rvC lp rg dr ex un rv
structure iJ where
 kind : Int
 thing : Int
@[go_sem] def iJ.c (s : iJ) : List AV := [.int .i64 s.kind,.int .i64 s.thing]
def PrR (w0 : World) (h : Heap) (x : List iJ) (c : List AV) : Prop := ∃ sv,c = [sv] ∧ Sl w0 h 2 sv (x.map iJ.c)
def PS (w0 : World) (h : Heap) (v : AV) (l : List (List iJ)) : Prop := NS w0 h 1 (PrR w0 h) v l
theorem PS.sub {H : Heap} {v : AV} {l : List (List iJ)} (s : PS w0 h v l) (t : aG h H) : PS w0 H v l := NS.mono s t fun x c ⟨sv,e,r⟩ => ⟨sv,e,r.sub t⟩
theorem PS.app {L : Heap} {v : AV} {l : List (List iJ)} (s : PS w0 h v l) : PS w0 (h ++ L) v l := s.sub aG.refl.app
theorem PS.at_ {v : AV} {l : List (List iJ)} (s : PS w0 h v l) {j : Nat} (hj : j < l.length) : ∃ (p : Pl) (sv : AV),dP 1 v (some j) = some (.ptr p) ∧ (∀ L,rd w0 (h ++ L) p = some sv) ∧ rd w0 h p = some sv ∧ Sl w0 h 2 sv (l[j].map iJ.c) := by
 obtain ⟨p,c,h1,h2,sv,rfl,h3⟩ := NS.at_ s hj
 have h4 := h2 []
 rw [List.append_nil] at h4
 exact ⟨p,sv,h1,fun L => rd_0 (h2 L) rfl,rd_0 h4 rfl,h3⟩
theorem PS.len {v : AV} {l : List (List iJ)} (s : PS w0 h v l) : mR v = some (.int .i64 l.length) := NS.len s
end Go.Proofs.Ab

/- The own layer under the proofs of this seat, part K: what calls of the program come to on an abstract heap. No condition. -/
import Derived.Test.YtajecdfdnlfndaaGreatJ
import Derived.Test.YtajecdfdnlfndaaGreatG
set_option linter.unusedSimpArgs false
set_option linter.unusedVariables false
namespace Go.Proofs.Ab
open Go Go.Proofs
variable {w0 : World} {h : Heap}
attribute [local irreducible] ACall aR bR bD cI rvC lp rg dr ex un rv
theorem rK (x lo hi : Int) : bD Tryz.prog w0 97 [.int .i64 x,.int .i64 lo,.int .i64 hi] h (.bool (inB x lo hi)) h := by
 refine bH aZ uV aAj aAi (qE rfl) (by simp [AV.bdd,AV.bdds]) fun hb ha => bB ?_
 simp only [go_sem,mf97]
 exact ⟨fun a => by simp [inB,a],fun a => by simp [inB,a]⟩
theorem nA (x lo hi : Int) : bD Tryz.prog w0 82 [.int .i64 x,.int .i64 lo,.int .i64 hi] h (.bool (inB x lo hi)) h := by
 refine bH aZ aCb mf82_b mf82_g (qE rfl) (by simp [AV.bdd,AV.bdds]) fun hb ha => bB ?_
 simp only [go_sem,mf82]
 exact ⟨fun a => by simp [inB,a],fun a => by simp [inB,a]⟩
theorem sW {α : Type} {l : List α} (d : α) {p : α → Bool} : (List.range l.length).all (fun j => p (l.getD j d)) = l.all p := by
 rw [Bool.eq_iff_iff,List.all_eq_true,List.all_eq_true]
 constructor
 · intro x a ha
   obtain ⟨i,hi,rfl⟩ := List.getElem_of_mem ha
   have := x i (List.mem_range.2 hi)
   rwa [getD_at hi] at this
 · intro x j hj
   have hj := List.mem_range.1 hj
   rw [getD_at hj]
   exact x _ (qG hj)
theorem zY {es i n j : Nat} {f : Bool} (h : j < n) : dO es (.sl (.own i 0) n es f) (some j) = some (.ptr (.own i (j * es))) := by simp [dO,gF,Pl.add,h]
theorem cG {n : Nat} : (if (0 : Int) ≤ (n : Int) then some (n : Int).toNat else none) = some n := by rw [if_pos (by omega),Int.toNat_natCast]
theorem mW (rows : List (List AV)) (v fv : AV) (p : Nat → Bool) (hv : Sl w0 h 7 v rows) (ho : ∀ c ∈ rows,c.all one = true) (hn : rows.length < 1000000)
 (hf : ∀ (j : Nat) c,rows[j]? = some c → (∀ i,i < j → p i = true) → ∀ L,cI Tryz.prog w0 fv [.agg c] (h ++ L) (.bool (p j)) (h ++ L)) : bD Tryz.prog w0 132 [v,fv] h (.bool ((List.range rows.length).all p)) h := by
 refine bH aZ rE vR vQ (qE rfl) (by simp [AV.bdd,AV.bdds]) fun hb ha => bB ?_
 have hfb : fv.bdd h.length := by simp only [AV.bdds] at ha; exact ha.2.1
 obtain ⟨hlen,q,hix,hrow,_⟩ := hv.use
 have vb := hv.bdd (Nat.le_refl _)
 simp only [go_sem,mf132,hlen]
 refine oU (fun j => [(1,fv),(7,v),(8,.int .i64 rows.length),(9,.int .i64 j)]) (fun j => p j = true) rows.length rfl (fun j hj hall ih => ?_) (fun hall => ?_)
 · refine bI aZ sC [1,7,8,9] L132_0.eq_1 ?_
   have e1 := hix j hj
   have e3 : (j : Int) < rows.length := by omega
   obtain ⟨c,hc⟩ : ∃ c,rows[j]? = some c := ⟨_,qA hj⟩
   have hl : c.length = 7 := (aBW (hrow j _ hc)).1
   have e2 : ∀ L,rdn w0 (h ++ L) (q.add (j * 7)) 7 = some c := fun L => eM (hrow j _ hc)
   have ho := ho c (List.mem_of_getElem? hc)
   obtain ⟨x0,x1,x2,x3,x4,x5,x6,rfl⟩ : ∃ x0 x1 x2 x3 x4 x5 x6,c = [x0,x1,x2,x3,x4,x5,x6] := by
    match c,hl with
    | [x0,x1,x2,x3,x4,x5,x6],_ => exact ⟨x0,x1,x2,x3,x4,x5,x6,rfl⟩
   simp only [go_sem,e1,e2,e3,ho]
   refine aK (by simpa using hf j _ hc hall [some (.row [x0,x1,x2,x3,x4,x5,x6])]) ?_
   simp only [go_sem]
   refine ⟨fun e => ?_,fun e => ⟨(by unfold I64; omega),?_⟩⟩
   · have : (List.range rows.length).all p = false := by
      rw [List.all_eq_false]; exact ⟨j,List.mem_range.2 hj,by simp [e]⟩
     rw [this]
   · refine fO 0 hb (by simp [HBs]) (by simp [cM,cS,cX,dR,eW,dJ,AV.bdds,AV.bdd,Pl.bdd,cA]; exact ⟨hfb,vb⟩) ?_
     simpa using ih e
 · refine bI aZ sC [1,7,8,9] L132_0.eq_1 ?_
   have e3 : ¬ (rows.length : Int) < rows.length := by omega
   simp only [go_sem,e3]
   have : (List.range rows.length).all p = true := by rw [List.all_eq_true]; exact fun x hx => hall x (List.mem_range.1 hx)
   rw [this]
structure CntD where
 dock : Int
 plane : Int
 people : Int
 jackets : Int
@[go_sem] def CntD.c (s : CntD) : List AV := [.int .i64 s.dock,.int .i64 s.plane,.int .i64 s.people,.int .i64 s.jackets]
@[simp] theorem CntD.c_bdd (N : Nat) (s : CntD) : AV.bdds N s.c := by simp [CntD.c,AV.bdds,AV.bdd]
end Go.Proofs.Ab
namespace Go.Proofs.Ab
open Go Go.Proofs
structure BrdD where
 people : Int
 jackets : Int
@[go_sem] def BrdD.c (s : BrdD) : List AV := [.int .i64 s.people,.int .i64 s.jackets]
end Go.Proofs.Ab
namespace Go.Proofs.Ab
open Go Go.Proofs
variable {w0 : World} {h : Heap}
attribute [local irreducible] ACall aR bR bD cI rvC lp rg dr ex un rv
end Go.Proofs.Ab
namespace Go.Proofs.Ab
open Go Go.Proofs
end Go.Proofs.Ab
namespace Go.Proofs.Ab
open Go Go.Proofs
variable {w0 : World} {h : Heap}
end Go.Proofs.Ab
namespace Go.Proofs.Ab
open Go Go.Proofs
variable {w0 : World} {h : Heap}
attribute [local irreducible] ACall aR bR bD cI rvC lp rg dr ex un rv
end Go.Proofs.Ab
namespace Go.Proofs.Ab
open Go Go.Proofs
variable {w : World} {h : Heap} {cs : List Value}
theorem int_of {v : Value} (g : Gd w (.int .nil) [v]) : ∃ n : Int,inj v = .int .i64 n ∧ I64 n := by
 obtain ⟨n,_,e,h,rfl⟩ := g
 cases e; exact ⟨n,rfl,h⟩
theorem wA {v : Value} (g : Gd w (.sl (.int .nil) .nil) [v]) : ∃ l : List Int,SlI w h (inj v) l ∧ l.length ≤ 9223372036854775807 := by
 obtain ⟨_,_,e,h,rfl⟩ := g
 cases e; exact aDL h
end Go.Proofs.Ab
namespace Go.Proofs.Ab
open Go Go.Proofs
variable {w0 : World} {h : Heap}
attribute [local irreducible] ACall aR bR bD cI rvC lp rg dr ex un rv
structure iC where
 kind : Int
 thing : Int
@[go_sem] def iC.c (s : iC) : List AV := [.int .i64 s.kind,.int .i64 s.thing]
def PrR (w0 : World) (h : Heap) (x : List iC) (c : List AV) : Prop := ∃ sv,c = [sv] ∧ Sl w0 h 2 sv (x.map iC.c)
def PS (w0 : World) (h : Heap) (v : AV) (l : List (List iC)) : Prop := NS w0 h 1 (PrR w0 h) v l
theorem PS.sub {H : Heap} {v : AV} {l : List (List iC)} (s : PS w0 h v l) (t : aH h H) : PS w0 H v l := NS.mono s t fun x c ⟨sv,e,r⟩ => ⟨sv,e,r.sub t⟩
theorem PS.app {L : Heap} {v : AV} {l : List (List iC)} (s : PS w0 h v l) : PS w0 (h ++ L) v l := s.sub aH.refl.app
theorem PS.at_ {v : AV} {l : List (List iC)} (s : PS w0 h v l) {j : Nat} (hj : j < l.length) : ∃ (p : Pl) (sv : AV),dO 1 v (some j) = some (.ptr p) ∧ (∀ L,rd w0 (h ++ L) p = some sv) ∧ rd w0 h p = some sv ∧ Sl w0 h 2 sv (l[j].map iC.c) := by
 obtain ⟨p,c,h1,h2,sv,rfl,h3⟩ := NS.at_ s hj
 have h4 := h2 []
 rw [List.append_nil] at h4
 exact ⟨p,sv,h1,fun L => rd_0 (h2 L) rfl,rd_0 h4 rfl,h3⟩
theorem PS.len {v : AV} {l : List (List iC)} (s : PS w0 h v l) : kP v = some (.int .i64 l.length) := NS.len s
end Go.Proofs.Ab

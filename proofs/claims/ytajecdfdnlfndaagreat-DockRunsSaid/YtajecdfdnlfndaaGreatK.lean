/- The own layer under the proofs of this seat, part K: what calls of the program come to on an abstract heap. No condition. -/
import Derived.Test.YtajecdfdnlfndaaGreatJ
import Derived.Test.YtajecdfdnlfndaaGreatG
set_option linter.unusedSimpArgs false
set_option linter.unusedVariables false
namespace Go.Proofs.Ab
open Go Go.Proofs
variable {w0 : World} {h : aA}
attribute [local irreducible] ACall aY cK bC dW rvC lp rg dr ex un rv
theorem in_c (x lo hi : Int) : bC Tryz.prog w0 97 [.int .i64 x,.int .i64 lo,.int .i64 hi] h (.bool (inB x lo hi)) h := by
 refine aU aW tN yU yT (qE rfl) (by simp [AV.bdd,AV.bdds]) fun hb ha => bD ?_
 simp only [go_sem,mf97]
 exact ⟨fun a => by simp [inB,a],fun a => by simp [inB,a]⟩
theorem tD (x lo hi : Int) : bC Tryz.prog w0 82 [.int .i64 x,.int .i64 lo,.int .i64 hi] h (.bool (inB x lo hi)) h := by
 refine aU aW aBH mf82_b mf82_g (qE rfl) (by simp [AV.bdd,AV.bdds]) fun hb ha => bD ?_
 simp only [go_sem,mf82]
 exact ⟨fun a => by simp [inB,a],fun a => by simp [inB,a]⟩
theorem fG {α : Type} {l : List α} (d : α) {p : α → Bool} : (List.range l.length).all (fun j => p (l.getD j d)) = l.all p := by
 rw [Bool.eq_iff_iff,List.all_eq_true,List.all_eq_true]
 constructor
 · intro x a ha
   obtain ⟨i,hi,rfl⟩ := List.getElem_of_mem ha
   have := x i (List.mem_range.2 hi)
   rwa [getD_at hi] at this
 · intro x j hj
   have hj := List.mem_range.1 hj
   rw [getD_at hj]
   exact x _ (qG hj)
theorem aAN {α : Type} {l : List α} {d x : α} {j : Nat} (e : l[j]? = some x) : l.getD j d = x := by simp [List.getD_eq_getElem?_getD,e]
theorem yO {es i n j : Nat} {f : Bool} (h : j < n) : dJ es (.sl (.own i 0) n es f) (some j) = some (.ptr (.own i (j * es))) := by simp [dJ,fS,Pl.add,h]
theorem gB {n : Nat} : (if (0 : Int) ≤ (n : Int) then some (n : Int).toNat else none) = some n := by rw [if_pos (by omega),Int.toNat_natCast]
theorem aA0 (rows : List (List AV)) (v fv : AV) (p : Nat → Bool) (hv : Sl w0 h 1 v rows) (ho : ∀ c ∈ rows,c.all one = true) (hn : rows.length < 1000000)
 (hf : ∀ (j : Nat) c,rows[j]? = some c → (∀ i,i < j → p i = true) → ∀ L,dW Tryz.prog w0 fv [c.headD .undef] (h ++ L) (.bool (p j)) (h ++ L)) : bC Tryz.prog w0 95 [v,fv] h (.bool ((List.range rows.length).all p)) h := by
 refine aU aW tO yW yV (qE rfl) (by simp [AV.bdd,AV.bdds]) fun hb ha => bD ?_
 have hfb : fv.bdd h.length := by simp only [AV.bdds] at ha; exact ha.2.1
 obtain ⟨hlen,q,hix,hrow,_⟩ := hv.use
 have vb := hv.bdd (Nat.le_refl _)
 simp only [go_sem,mf95,hlen]
 refine gC (fun j => [(1,fv),(7,v),(8,.int .i64 rows.length),(9,.int .i64 j)]) (fun j => p j = true) rows.length rfl (fun j hj hall ih => ?_) (fun hall => ?_)
 · refine aS aW uY [1,7,8,9] L95_0.eq_1 ?_
   have e1 := hix j hj
   have e3 : (j : Int) < rows.length := by omega
   obtain ⟨c,hc⟩ : ∃ c,rows[j]? = some c := ⟨_,qA hj⟩
   have hl : c.length = 1 := (tH (hrow j _ hc)).1
   have e2 : ∀ L,rdn w0 (h ++ L) (q.add (j * 1)) 1 = some c := fun L => cQ (hrow j _ hc)
   have ho := ho c (List.mem_of_getElem? hc)
   obtain ⟨x0,rfl⟩ : ∃ x0,c = [x0] := by
    match c,hl with
    | [x0],_ => exact ⟨x0,rfl⟩
   have e4 : ∀ L,rd w0 (h ++ L) (q.add (j * 1)) = some x0 := fun L => rd_0 (e2 L) rfl
   simp only [go_sem,e1,e4,e3,ho]
   refine aL (by simpa using hf j _ hc hall []) ?_
   simp only [go_sem]
   refine ⟨fun e => ?_,fun e => ⟨(by unfold I64; omega),?_⟩⟩
   · have : (List.range rows.length).all p = false := by
      rw [List.all_eq_false]; exact ⟨j,List.mem_range.2 hj,by simp [e]⟩
     rw [this]
     exact ⟨rfl,[],(List.append_nil _).symm⟩
   · simpa using ih e
 · refine aS aW uY [1,7,8,9] L95_0.eq_1 ?_
   have e3 : ¬ (rows.length : Int) < rows.length := by omega
   simp only [go_sem,e3]
   have : (List.range rows.length).all p = true := by rw [List.all_eq_true]; exact fun x hx => hall x (List.mem_range.1 hx)
   rw [this]
structure CntD where
 dock : Int
 plane : Int
 people : Int
 jackets : Int
@[go_sem] def CntD.c (s : CntD) : List AV := [.int .i64 s.dock,.int .i64 s.plane,.int .i64 s.people,.int .i64 s.jackets]
@[simp] theorem CntD.c_bdd (N : Nat) (s : CntD) : AV.bdds N s.c := by simp [CntD.c,AV.bdds,AV.bdd]
end Go.Proofs.Ab
namespace Go.Proofs.Ab
open Go Go.Proofs
structure BrdD where
 people : Int
 jackets : Int
@[go_sem] def BrdD.c (s : BrdD) : List AV := [.int .i64 s.people,.int .i64 s.jackets]
end Go.Proofs.Ab
namespace Go.Proofs.Ab
open Go Go.Proofs
variable {w0 : World} {h : aA}
attribute [local irreducible] ACall aY cK bC dW rvC lp rg dr ex un rv
theorem uR {v : AV} {l : List Int} (hv : SlI w0 h v l) (hn : l.length < 1000000) (hne : l ≠ []) : ACall Tryz.prog w0 90 [v] h fun y H => y = .sl (.own (h.length + 1) 0) l.length 1 false ∧ H = h ++ [some (.row []),some (.row (iis l))] := by
 refine dB aW tP yY yX (qE rfl) fun hb ha => bD ?_
 have hv' := hv
 rcases hv with ⟨h1,h2⟩ | ⟨q,f,⟨es',h1,h4⟩,h2,h3⟩
 · simp at h2; exact absurd h2 hne
 rw [List.length_map] at h1
 subst h1
 simp only [go_sem,mf90]
 have hflat : (l.map fun z => [AV.int .i64 z]).flatten = iis l := by
  clear hv' h3 ha hne hn
  induction l with
  | nil => rfl
  | cons x r ih => simp only [List.map_cons,List.flatten_cons,ih]; rfl
 have hall : rdn w0 h q (l.length * 1) = some (iis l) := by
  have := Sl.all (w0 := w0) (H := h) (es := 1) (p := q) (rows := l.map fun z => [AV.int .i64 z]) (by simpa using hne) h3
  rwa [List.length_map,hflat] at this
 have hl0 : l.length ≠ 0 := fun e => hne (List.length_eq_zero_iff.1 e)
 have hone : (iis l).all one = true := List.all_eq_true.2 fun x hx => by
  simp only [iis,List.mem_map] at hx
  obtain ⟨z,_,rfl⟩ := hx; rfl
 have hap : eG w0 (h ++ [some (.row [])]) 1 8 (.sl (.own h.length 0) 0 1 true) (.sl q l.length es' f) = some (.sl (.own (h.length + 1) 0) l.length 1 false,h ++ [some (.row []),some (.row (iis l))]) := by
  have r1 : rdn w0 (h ++ [some (.row [])]) q (l.length * 1) = some (iis l) := cQ hall
  have r2 : rdn w0 (h ++ [some (.row [])]) (.own h.length 0) (0 * 1) = some [] := by simp [rdn]
  simp only [eG,fU,h4,if_true,r1,Option.map_some,Option.bind_some]
  rw [if_neg hl0,if_pos ⟨by simp [fS],by omega,hone⟩,r2]
  simp [eZ]
 rw [hap]
 have hbb : ∀ N,AV.bdds N (iis l) := fun N => aO.2 fun x hx => by
  simp only [iis,List.mem_map] at hx
  obtain ⟨z,_,rfl⟩ := hx; exact trivial
 have hbh : HB (h ++ [some (.row []),some (.row (iis l))]) := sJ hb (by
  intro b hb
  simp only [List.mem_cons,Option.some.injEq,List.not_mem_nil,or_false] at hb
  rcases hb with rfl | rfl
  · exact aO.1 trivial
  · exact aO.1 (hbb _))
 simp only [go_sem]
 exact ⟨_,[],(List.append_nil _).symm,by simp,hbh,by simp [AV.bdd,Pl.bdd],rfl⟩
end Go.Proofs.Ab
namespace Go.Proofs.Ab
open Go Go.Proofs
variable {w0 : World} {h : aA}
def fD (M : List (Int × Bool)) : List (AV × AV) := M.map fun m => (.int .i64 m.1,.bool m.2)
def fE : List (Int × Bool) → Int → Bool
 | [],_ => false
 | m :: M,k => if m.1 = k then m.2 else fE M k
def hJ : List (Int × Bool) → Int → Bool → List (Int × Bool)
 | [],k,b => [(k,b)]
 | m :: M,k,b => if m.1 = k then (k,b) :: M else m :: hJ M k b
theorem pU (k k' : Int) (b : Bool) : ∀ M,fE (hJ M k b) k' = if k' = k then b else fE M k'
 | [] => by simp only [hJ,fE]; split <;> split <;> simp_all
 | m :: M => by
  have ih := pU k k' b M
  simp only [hJ]
  by_cases e : m.1 = k
  · rw [if_pos e]; simp only [fE]
    by_cases e2 : k' = k
    · subst e2; simp
    · rw [if_neg (fun x => e2 x.symm),if_neg e2,if_neg (by rw [e]; exact fun x => e2 x.symm)]
  · rw [if_neg e]; simp only [fE,ih]
    by_cases e3 : m.1 = k'
    · rw [if_pos e3,if_neg (by rw [← e3]; exact e),if_pos e3]
    · rw [if_neg e3,if_neg e3]
theorem rS (k : Int) (b : Bool) : ∀ (M : List (Int × Bool)) (a : Nat),(dD (false,[true]) (.int .i64 k) (fD M) a = some none ∧ fE M k = false ∧ hJ M k b = M ++ [(k,b)]) ∨
 ∃ j,dD (false,[true]) (.int .i64 k) (fD M) a = some (some (a + j,.bool (fE M k))) ∧ (fD M).set j (.int .i64 k,.bool b) = fD (hJ M k b)
 | [],a => .inl ⟨rfl,rfl,rfl⟩
 | m :: M,a => by
  by_cases e : m.1 = k
  · refine .inr ⟨0,?_,?_⟩
    · simp [fD,dD,keq,bS,ceq,fE,e]
    · simp [fD,hJ,e]
  · have e1 : dD (false,[true]) (.int .i64 k) (fD (m :: M)) a = dD (false,[true]) (.int .i64 k) (fD M) (a + 1) := by
     have e0 : (k == m.1) = false := by simpa using fun x => e x.symm
     simp [fD,dD,keq,bS,ceq,e0]
    rcases rS k b M (a + 1) with ⟨h1,h2,h3⟩ | ⟨j,h1,h2⟩
    · exact .inl ⟨by rw [e1,h1],by simp [fE,e,h2],by simp [hJ,e,h3]⟩
    · refine .inr ⟨j + 1,by rw [e1,h1,show a + 1 + j = a + (j + 1) by omega]; simp [fE,e],?_⟩
      rw [hJ,if_neg e]
      simp only [fD,List.map_cons,List.set_cons_succ] at h2 ⊢
      rw [h2]
theorem look_B {i : Nat} {M : List (Int × Bool)} (hi : h[i]? = some (some (.map (fD M)))) (k : Int) : pQ h (false,[true]) (.bool false) false (.map i) (.int .i64 k) = some (.bool (fE M k)) := by
 simp only [pQ,hi]
 rw [if_neg (by simp [keq,bS,ceq])]
 rcases rS k true M 0 with ⟨h1,h2,_⟩ | ⟨j,h1,_⟩
 · rw [h1]; simp [h2]
 · rw [h1]; simp
theorem mput_B {i : Nat} {M : List (Int × Bool)} (hi : h[i]? = some (some (.map (fD M)))) (k : Int) (b : Bool) : mO h (false,[true]) (.map i) (.int .i64 k) (.bool b) = some (.undef,h.set i (some (.map (fD (hJ M k b))))) := by
 simp only [mO,hi]
 rw [if_neg (by simp [keq,bS,ceq])]
 rcases rS k b M 0 with ⟨h1,_,h3⟩ | ⟨j,h1,h2⟩
 · rw [h1,h3]; simp [fD]
 · rw [h1]; simp only [Nat.zero_add,h2]
end Go.Proofs.Ab
namespace Go.Proofs.Ab
open Go Go.Proofs
variable {w0 : World} {h : aA}
attribute [local irreducible] ACall aY cK bC dW rvC lp rg dr ex un rv
theorem rW {α : Type} {a b : List α} (hl : a.length = b.length) (h : ∀ (i : Nat) (x y : α),a[i]? = some x → b[i]? = some y → x = y) : a = b := List.ext_getElem? fun i => by
 by_cases hi : i < a.length
 · have := h i _ _ (qA hi) (qA (hl ▸ hi))
   rw [qA hi,qA (hl ▸ hi),this]
 · rw [List.getElem?_eq_none (by omega),List.getElem?_eq_none (by omega)]
theorem sZ {x y : AV} {a b : List Int} (hx : SlI w0 h x a) (hy : SlI w0 h y b) (hn : a.length < 1000000) : bC Tryz.prog w0 21 [x,y] h (.bool (decide (a = b))) h := by
 refine aU aW tV zK zJ (qE rfl) (by simp [AV.bdd,AV.bdds]) fun hb ha => bD ?_
 have la := (SlI.use hx).1
 have lb := (SlI.use hy).1
 by_cases hl : a.length = b.length
 · have e1 : ((a.length : Int) != b.length) = false := by simp [hl]
   have e1' : (a.length : Int) = b.length := by omega
   simp only [go_sem,mf21,la,lb,e1,e1']
   refine gC (fun j => [(0,x),(1,y),(5,.int .i64 j)]) (fun j => ∀ u v,a[j]? = some u → b[j]? = some v → u = v) a.length rfl (fun j hj hall ih => ?_) (fun hall => ?_)
   · refine aS aW vF [0,1,5] L21_0.eq_1 ?_
     obtain ⟨p,i1,r1,r1'⟩ := hx.at_ hj
     obtain ⟨q,i2,r2,r2'⟩ := hy.at_ (hl ▸ hj)
     have e2 : (j : Int) < b.length := by omega
     by_cases e3 : a[j] = b[j]'(hl ▸ hj)
     · simp only [go_sem,la,lb,e1',e2,i1,i2,r1,r2,r1',r2',e3]
       refine ⟨(by unfold I64; omega),ih fun u v hu hv => ?_⟩
       rw [qA hj] at hu
       rw [qA (hl ▸ hj)] at hv
       cases hu; cases hv; exact e3
     · simp only [go_sem,la,lb,e1',e2,i1,i2,r1,r2,r1',r2',e3]
       have : a ≠ b := fun e => e3 (by simp [e])
       simp [this]
   · refine aS aW vF [0,1,5] L21_0.eq_1 ?_
     have e2 : ¬ (a.length : Int) < a.length := by omega
     have : a = b := rW hl fun i u v hu hv => hall i (aX hu) u v hu hv
     simp only [go_sem,la,e2]
     simp [this]
 · have e1 : ¬ (a.length : Int) = b.length := by omega
   simp only [go_sem,mf21,la,lb,e1]
   have : a ≠ b := fun e => hl (by rw [e])
   simp [this]
end Go.Proofs.Ab
namespace Go.Proofs.Ab
open Go Go.Proofs
variable {w : World} {h : aA} {cs : List Value}
theorem int_of {v : Value} (g : Gd w (.int .nil) [v]) : ∃ n : Int,inj v = .int .i64 n ∧ I64 n := by
 obtain ⟨n,_,e,h,rfl⟩ := g
 cases e; exact ⟨n,rfl,h⟩
theorem aDs {v : Value} (g : Gd w (.sl (.int .nil) .nil) [v]) : ∃ l : List Int,SlI w h (inj v) l ∧ l.length ≤ 9223372036854775807 := by
 obtain ⟨_,_,e,h,rfl⟩ := g
 cases e; exact aDA h
end Go.Proofs.Ab
namespace Go.Proofs.Ab
open Go Go.Proofs
variable {w0 : World} {h : aA}
attribute [local irreducible] ACall aY cK bC dW rvC lp rg dr ex un rv
structure aR where
 kind : Int
 thing : Int
@[go_sem] def aR.c (s : aR) : List AV := [.int .i64 s.kind,.int .i64 s.thing]
def PrR (w0 : World) (h : aA) (x : List aR) (c : List AV) : Prop := ∃ sv,c = [sv] ∧ Sl w0 h 2 sv (x.map aR.c)
def PS (w0 : World) (h : aA) (v : AV) (l : List (List aR)) : Prop := NS w0 h 1 (PrR w0 h) v l
theorem PS.sub {H : aA} {v : AV} {l : List (List aR)} (s : PS w0 h v l) (t : aI h H) : PS w0 H v l := NS.mono s t fun x c ⟨sv,e,r⟩ => ⟨sv,e,r.sub t⟩
theorem PS.app {L : aA} {v : AV} {l : List (List aR)} (s : PS w0 h v l) : PS w0 (h ++ L) v l := s.sub aI.refl.app
theorem PS.at_ {v : AV} {l : List (List aR)} (s : PS w0 h v l) {j : Nat} (hj : j < l.length) : ∃ (p : Pl) (sv : AV),dJ 1 v (some j) = some (.ptr p) ∧ (∀ L,rd w0 (h ++ L) p = some sv) ∧ rd w0 h p = some sv ∧ Sl w0 h 2 sv (l[j].map aR.c) := by
 obtain ⟨p,c,h1,h2,sv,rfl,h3⟩ := NS.at_ s hj
 have h4 := h2 []
 rw [List.append_nil] at h4
 exact ⟨p,sv,h1,fun L => rd_0 (h2 L) rfl,rd_0 h4 rfl,h3⟩
theorem PS.len {v : AV} {l : List (List aR)} (s : PS w0 h v l) : gD v = some (.int .i64 l.length) := NS.len s
theorem aDr {sv : AV} {x : List aR} (hx : Sl w0 h 2 sv (x.map aR.c)) : bC Tryz.prog w0 129 [sv] h (.bool (decide (6 < x.length))) h := by
 refine aU aW pO uF uE (qE rfl) (by simp [AV.bdd,AV.bdds]) fun hb ha => bD ?_
 have hlen : gD sv = some (.int .i64 x.length) := by have := hx.use.1; rwa [List.length_map] at this
 simp only [go_sem,mf129,hlen]
 simp only [gt_iff_lt,AV.bool.injEq,decide_eq_decide]; omega
def dY (l : List (List aR)) : Bool := l.any fun x => decide (6 < x.length)
theorem aAK {v : AV} {l : List (List aR)} (hv : PS w0 h v l) (hn : l.length < 1000000) : bC Tryz.prog w0 144 [v,.fn (.func 129) [] []] h (.int .i64 (match l.findIdx? fun x => decide (6 < x.length) with | some j => (j : Int) | none => -1)) h := by
 refine aU aW pN uD uC (qE rfl) (by simp [AV.bdd,AV.bdds]) fun hb ha => bD ?_
 have hlen := hv.len
 have vb := NS.bdd hv (Nat.le_refl _)
 simp only [go_sem,mf144,hlen]
 refine gC (fun j => [(0,v),(1,.fn (.func 129) [] []),(7,.int .i64 l.length),(8,.int .i64 j)]) (fun j => ∀ x,l[j]? = some x → ¬ 6 < x.length) l.length rfl (fun j hj hall ih => ?_) (fun hall => ?_)
 · refine aS aW qU [0,1,7,8] L144_0.eq_1 ?_
   have e1 : (j : Int) < l.length := by omega
   obtain ⟨p,sv,i1,r1,r1',hs⟩ := hv.at_ hj
   simp only [go_sem,e1,i1,r1,r1']
   refine aL (bC.vc (P := Tryz.prog) (first := []) (capt := []) (aDr hs.app)) ?_
   by_cases q : 6 < l[j].length
   · have hf : l.findIdx? (fun x => decide (6 < x.length)) = some j := by
      rw [List.findIdx?_eq_some_iff_getElem]
      exact ⟨hj,by simp [q],fun i hi => by simpa using hall i hi _ (qA (by omega))⟩
     rw [decide_eq_true q,hf]
     simp only [go_sem]
   · rw [decide_eq_false q]
     simp only [go_sem]
     exact ⟨(by unfold I64; omega),ih fun x hx => by rw [qA hj] at hx; cases hx; exact q⟩
 · refine aS aW qU [0,1,7,8] L144_0.eq_1 ?_
   have e1 : ¬ (l.length : Int) < l.length := by omega
   have hf : l.findIdx? (fun x => decide (6 < x.length)) = none := by
    rw [List.findIdx?_eq_none_iff]
    intro x hx
    obtain ⟨i,hi,rfl⟩ := List.getElem_of_mem hx
    simpa using hall i hi _ (qA hi)
   rw [hf]
   simp only [go_sem,e1]
theorem long_c {v : AV} {l : List (List aR)} (hv : PS w0 h v l) (hn : l.length < 1000000) : bC Tryz.prog w0 83 [v] h (.bool (dY l)) h := by
 refine aU aW tU zI zH (qE rfl) (by simp [AV.bdd,AV.bdds]) fun hb ha => bD ?_
 simp only [go_sem,mf83]
 have hc : ∀ {H : aA},PS w0 H v l → bC Tryz.prog w0 128 [v,.fn (.func 129) [] []] H (.bool (dY l)) H := by
  clear hv hb ha
  intro h hv
  refine aU aW pP uH uG (qE rfl) (by simp [AV.bdd,AV.bdds]) fun hb ha => bD ?_
  simp only [go_sem,mf128]
  refine aL (aAK hv.app hn).v ?_
  cases hf : l.findIdx? fun x => decide (6 < x.length) with
  | none =>
   have : dY l = false := by
    rw [List.findIdx?_eq_none_iff] at hf
    rw [dY,List.any_eq_false]; exact fun x hx => by simp [hf x hx]
   simp only [go_sem]
   rw [this]
  | some j =>
   have : dY l = true := by
    rw [List.findIdx?_eq_some_iff_getElem] at hf
    obtain ⟨hj,h1,_⟩ := hf
    rw [dY,List.any_eq_true]; exact ⟨_,qG hj,h1⟩
   have e : (j : Int) ≥ 0 := by omega
   simp only [go_sem,e]
   rw [this]
 refine aL (hc hv.app).v ?_
 simp only [go_sem]
theorem iT {v : AV} {l : List (List aR)} (hv : PS w0 h v l) (hn : l.length < 1000000) : bC Tryz.prog w0 34 [v] h (.bool (dY l)) h := by
 refine aU aW aB3 mf34_b mf34_g (qE rfl) (by simp [AV.bdd,AV.bdds]) fun hb ha => bD ?_
 have hlen := hv.len
 simp only [go_sem,mf34]
 refine gC (fun j => [(0,v),(3,.int .i64 j)]) (fun j => ∀ x,l[j]? = some x → ¬ 6 < x.length) l.length rfl (fun j hj hall ih => ?_) (fun hall => ?_)
 · refine aS aW vD [0,3] L34_0.eq_1 ?_
   have e1 : (j : Int) < l.length := by omega
   obtain ⟨p,sv,i1,r1,r1',hs⟩ := hv.at_ hj
   have hls : gD sv = some (.int .i64 l[j].length) := by have := hs.use.1; rwa [List.length_map] at this
   by_cases q : 6 < l[j].length
   · have q' : (l[j].length : Int) > 6 := by omega
     have : dY l = true := by rw [dY,List.any_eq_true]; exact ⟨_,qG hj,by simp [q]⟩
     simp only [go_sem,hlen,e1,i1,r1,r1',hls,q']
     rw [this]
   · have q' : ¬ (l[j].length : Int) > 6 := by omega
     simp only [go_sem,hlen,e1,i1,r1,r1',hls,q']
     exact ⟨(by unfold I64; omega),ih fun x hx => by rw [qA hj] at hx; cases hx; exact q⟩
 · refine aS aW vD [0,3] L34_0.eq_1 ?_
   have e1 : ¬ (l.length : Int) < l.length := by omega
   have : dY l = false := by
    rw [dY,List.any_eq_false]
    intro x hx
    obtain ⟨i,hi,rfl⟩ := List.getElem_of_mem hx
    simpa using hall i hi _ (qA hi)
   simp only [go_sem,hlen,e1]
   rw [this]
def lH (l : List (List aR)) : Bool := (l.all fun x => decide (x.length ≤ 20)) && decide (l.length ≤ 12)
theorem lean_c {v : AV} {l : List (List aR)} (hv : PS w0 h v l) (hn : l.length ≤ 9223372036854775807) : bC Tryz.prog w0 32 [v] h (.bool (lH l)) h := by
 refine aU aW aB4 mf32_b mf32_g (qE rfl) (by simp [AV.bdd,AV.bdds]) fun hb ha => bD ?_
 have hlen := hv.len
 simp only [go_sem,mf32]
 refine gC (fun j => [(0,v),(3,.int .i64 j)]) (fun j => ∀ x,l[j]? = some x → x.length ≤ 20) l.length rfl (fun j hj hall ih => ?_) (fun hall => ?_)
 · refine aS aW vE [0,3] L32_0.eq_1 ?_
   have e1 : (j : Int) < l.length := by omega
   obtain ⟨p,sv,i1,r1,r1',hs⟩ := hv.at_ hj
   have hls : gD sv = some (.int .i64 l[j].length) := by have := hs.use.1; rwa [List.length_map] at this
   by_cases q : 20 < l[j].length
   · have q' : (l[j].length : Int) > 20 := by omega
     have : lH l = false := by rw [lH,List.all_eq_false.2 ⟨_,qG hj,by simp; omega⟩]; rfl
     simp only [go_sem,hlen,e1,i1,r1,r1',hls,q']
     rw [this]
   · have q' : ¬ (l[j].length : Int) > 20 := by omega
     simp only [go_sem,hlen,e1,i1,r1,r1',hls,q']
     exact ⟨(by unfold I64; omega),ih fun x hx => by rw [qA hj] at hx; cases hx; omega⟩
 · refine aS aW vE [0,3] L32_0.eq_1 ?_
   have e1 : ¬ (l.length : Int) < l.length := by omega
   have : (l.all fun x => decide (x.length ≤ 20)) = true := by
    rw [List.all_eq_true]
    intro x hx
    obtain ⟨i,hi,rfl⟩ := List.getElem_of_mem hx
    simpa using hall i hi _ (qA hi)
   simp only [go_sem,hlen,e1]
   rw [lH,this]
   simp only [Bool.true_and,AV.bool.injEq,decide_eq_decide]; omega
end Go.Proofs.Ab
namespace Go.Proofs.Ab
open Go Go.Proofs
variable {w : World} {h : aA} {cs : List Value}
def xK : Rw := .int (.int .nil)
theorem yM {v : Value} (g : Gd w (.sl (.sl xK .nil) .nil) [v]) : ∃ l : List (List aR),PS w h (inj v) l ∧ l.length ≤ 9223372036854775807 := by
 obtain ⟨_,_,e,g,rfl⟩ := g
 cases e
 obtain ⟨rows,h1,h2,h3⟩ := tA (h := h) g
 obtain ⟨l,rfl,hl⟩ := kZ (f := fun x : AV × List aR => [x.1]) (p := fun x => Sl w h 2 x.1 (x.2.map aR.c)) (rows := rows) fun c hc => by
  obtain ⟨cs,rfl,u,_,rfl,g2,rfl⟩ := h3 c hc
  obtain ⟨q,hq,_⟩ := pA (h := h) aR.c rfl g2 fun _ g => by
   obtain ⟨a,_,rfl,_,b,_,rfl,_,rfl⟩ := g
   exact ⟨⟨a,b⟩,rfl⟩
  exact ⟨(inj u,q),rfl,hq⟩
 refine ⟨l.map Prod.snd,⟨_,by simp,h1,fun j x c hx hc => ?_⟩,by simpa using h2⟩
 simp only [List.getElem?_map,qD] at hx hc
 obtain ⟨a,a1,rfl⟩ := hx
 obtain ⟨b,b1,rfl⟩ := hc
 rw [a1] at b1; cases b1
 exact ⟨a.1,rfl,hl _ (List.mem_of_getElem? a1)⟩
end Go.Proofs.Ab

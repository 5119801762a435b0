/- The own layer under the proofs of this seat, part K: what calls of the program come to on an abstract heap. No condition. -/
import Derived.Test.YtajecdfdnlfndaaGreatJ
import Derived.Test.YtajecdfdnlfndaaGreatG
set_option linter.unusedSimpArgs false
set_option linter.unusedVariables false
namespace Go.Proofs.Ab
open Go Go.Proofs
variable {w0 : World} {h : aA}
attribute [local irreducible] ACall bC cM bG dO rvC lp rg dr ex un rv
theorem in_c (x lo hi : Int) : bG Tryz.prog w0 97 [.int .i64 x,.int .i64 lo,.int .i64 hi] h (.bool (inB x lo hi)) h := by
 refine aX aW wZ aBp aBo (qE rfl) (by simp [AV.bdd,AV.bdds]) fun hb ha => bF ?_
 simp only [go_sem,mf97]
 exact ⟨fun a => by simp [inB,a],fun a => by simp [inB,a]⟩
theorem aA9 (x lo hi : Int) : bG Tryz.prog w0 82 [.int .i64 x,.int .i64 lo,.int .i64 hi] h (.bool (inB x lo hi)) h := by
 refine aX aW aDD mf82_b mf82_g (qE rfl) (by simp [AV.bdd,AV.bdds]) fun hb ha => bF ?_
 simp only [go_sem,mf82]
 exact ⟨fun a => by simp [inB,a],fun a => by simp [inB,a]⟩
theorem nM {α : Type} {l : List α} (d : α) {p : α → Bool} : (List.range l.length).all (fun j => p (l.getD j d)) = l.all p := by
 rw [Bool.eq_iff_iff,List.all_eq_true,List.all_eq_true]
 constructor
 · intro x a ha
   obtain ⟨i,hi,rfl⟩ := List.getElem_of_mem ha
   have := x i (List.mem_range.2 hi)
   rwa [getD_at hi] at this
 · intro x j hj
   have hj := List.mem_range.1 hj
   rw [getD_at hj]
   exact x _ (qG hj)
theorem vC {es i n j : Nat} {f : Bool} (h : j < n) : dG es (.sl (.own i 0) n es f) (some j) = some (.ptr (.own i (j * es))) := by simp [dG,iE,Pl.add,h]
theorem gT {n : Nat} : (if (0 : Int) ≤ (n : Int) then some (n : Int).toNat else none) = some n := by rw [if_pos (by omega),Int.toNat_natCast]
structure CntD where
 dock : Int
 plane : Int
 people : Int
 jackets : Int
@[go_sem] def CntD.c (s : CntD) : List AV := [.int .i64 s.dock,.int .i64 s.plane,.int .i64 s.people,.int .i64 s.jackets]
@[simp] theorem CntD.c_bdd (N : Nat) (s : CntD) : AV.bdds N s.c := by simp [CntD.c,AV.bdds,AV.bdd]
end Go.Proofs.Ab
namespace Go.Proofs.Ab
open Go Go.Proofs
structure BrdD where
 people : Int
 jackets : Int
@[go_sem] def BrdD.c (s : BrdD) : List AV := [.int .i64 s.people,.int .i64 s.jackets]
end Go.Proofs.Ab
namespace Go.Proofs.Ab
open Go Go.Proofs
variable {w0 : World} {h : aA}
attribute [local irreducible] ACall bC cM bG dO rvC lp rg dr ex un rv
theorem yO {v : AV} {l : List Int} (hv : SlI w0 h v l) (hn : l.length < 1000000) (hne : l ≠ []) : ACall Tryz.prog w0 90 [v] h fun y H => y = .sl (.own (h.length + 1) 0) l.length 1 false ∧ H = h ++ [some (.row []),some (.row (iis l))] := by
 refine dU aW qV vF vE (qE rfl) fun hb ha => bF ?_
 have hv' := hv
 rcases hv with ⟨h1,h2⟩ | ⟨q,f,⟨es',h1,h4⟩,h2,h3⟩
 · simp at h2; exact absurd h2 hne
 rw [List.length_map] at h1
 subst h1
 simp only [go_sem,mf90]
 have hflat : (l.map fun z => [AV.int .i64 z]).flatten = iis l := by
  clear hv' h3 ha hne hn
  induction l with
  | nil => rfl
  | cons x r ih => simp only [List.map_cons,List.flatten_cons,ih]; rfl
 have hall : rdn w0 h q (l.length * 1) = some (iis l) := by
  have := Sl.all (w0 := w0) (H := h) (es := 1) (p := q) (rows := l.map fun z => [AV.int .i64 z]) (by simpa using hne) h3
  rwa [List.length_map,hflat] at this
 have hl0 : l.length ≠ 0 := fun e => hne (List.length_eq_zero_iff.1 e)
 have hone : (iis l).all one = true := List.all_eq_true.2 fun x hx => by
  simp only [iis,List.mem_map] at hx
  obtain ⟨z,_,rfl⟩ := hx; rfl
 have hap : cJ w0 (h ++ [some (.row [])]) 1 8 (.sl (.own h.length 0) 0 1 true) (.sl q l.length es' f) = some (.sl (.own (h.length + 1) 0) l.length 1 false,h ++ [some (.row []),some (.row (iis l))]) := by
  have r1 : rdn w0 (h ++ [some (.row [])]) q (l.length * 1) = some (iis l) := dY hall
  have r2 : rdn w0 (h ++ [some (.row [])]) (.own h.length 0) (0 * 1) = some [] := by simp [rdn]
  simp only [cJ,eU,h4,if_true,r1,Option.map_some,Option.bind_some]
  rw [if_neg hl0,if_pos ⟨by simp [iE],by omega,hone⟩,r2]
  simp [fE]
 rw [hap]
 have hbb : ∀ N,AV.bdds N (iis l) := fun N => aV.2 fun x hx => by
  simp only [iis,List.mem_map] at hx
  obtain ⟨z,_,rfl⟩ := hx; exact trivial
 have hbh : HB (h ++ [some (.row []),some (.row (iis l))]) := wB hb (by
  intro b hb
  simp only [List.mem_cons,Option.some.injEq,List.not_mem_nil,or_false] at hb
  rcases hb with rfl | rfl
  · exact aV.1 trivial
  · exact aV.1 (hbb _))
 simp only [go_sem]
 exact ⟨_,[],(List.append_nil _).symm,by simp,hbh,by simp [AV.bdd,Pl.bdd],rfl⟩
end Go.Proofs.Ab
namespace Go.Proofs.Ab
open Go Go.Proofs
def stay (l : List gK) (i : Nat) : gK := l.getD i ⟨0,0,0,0⟩
def fM : List Int → List Int → Bool
 | a :: r,b :: s => if a = b then fM r s else decide (a < b)
 | _,_ => false
theorem aCQ (p r s : List Int) : fM (p ++ r) (p ++ s) = fM r s := by
 induction p with
 | nil => rfl
 | cons a p ih => simp [fM,ih]
theorem aCP (r : List Int) : fM r r = false := by
 induction r with
 | nil => rfl
 | cons a p ih => simp [fM,ih]
end Go.Proofs.Ab
namespace Go.Proofs.Ab
open Go Go.Proofs
variable {w0 : World} {h : aA}
def gG (M : List (Int × Bool)) : List (AV × AV) := M.map fun m => (.int .i64 m.1,.bool m.2)
def gJ : List (Int × Bool) → Int → Bool
 | [],_ => false
 | m :: M,k => if m.1 = k then m.2 else gJ M k
def jE : List (Int × Bool) → Int → Bool → List (Int × Bool)
 | [],k,b => [(k,b)]
 | m :: M,k,b => if m.1 = k then (k,b) :: M else m :: jE M k b
theorem tL (k k' : Int) (b : Bool) : ∀ M,gJ (jE M k b) k' = if k' = k then b else gJ M k'
 | [] => by simp only [jE,gJ]; split <;> split <;> simp_all
 | m :: M => by
  have ih := tL k k' b M
  simp only [jE]
  by_cases e : m.1 = k
  · rw [if_pos e]; simp only [gJ]
    by_cases e2 : k' = k
    · subst e2; simp
    · rw [if_neg (fun x => e2 x.symm),if_neg e2,if_neg (by rw [e]; exact fun x => e2 x.symm)]
  · rw [if_neg e]; simp only [gJ,ih]
    by_cases e3 : m.1 = k'
    · rw [if_pos e3,if_neg (by rw [← e3]; exact e),if_pos e3]
    · rw [if_neg e3,if_neg e3]
theorem vN (k : Int) (b : Bool) : ∀ (M : List (Int × Bool)) (a : Nat),(dH (false,[true]) (.int .i64 k) (gG M) a = some none ∧ gJ M k = false ∧ jE M k b = M ++ [(k,b)]) ∨
 ∃ j,dH (false,[true]) (.int .i64 k) (gG M) a = some (some (a + j,.bool (gJ M k))) ∧ (gG M).set j (.int .i64 k,.bool b) = gG (jE M k b)
 | [],a => .inl ⟨rfl,rfl,rfl⟩
 | m :: M,a => by
  by_cases e : m.1 = k
  · refine .inr ⟨0,?_,?_⟩
    · simp [gG,dH,keq,bU,ceq,gJ,e]
    · simp [gG,jE,e]
  · have e1 : dH (false,[true]) (.int .i64 k) (gG (m :: M)) a = dH (false,[true]) (.int .i64 k) (gG M) (a + 1) := by
     have e0 : (k == m.1) = false := by simpa using fun x => e x.symm
     simp [gG,dH,keq,bU,ceq,e0]
    rcases vN k b M (a + 1) with ⟨h1,h2,h3⟩ | ⟨j,h1,h2⟩
    · exact .inl ⟨by rw [e1,h1],by simp [gJ,e,h2],by simp [jE,e,h3]⟩
    · refine .inr ⟨j + 1,by rw [e1,h1,show a + 1 + j = a + (j + 1) by omega]; simp [gJ,e],?_⟩
      rw [jE,if_neg e]
      simp only [gG,List.map_cons,List.set_cons_succ] at h2 ⊢
      rw [h2]
theorem look_B {i : Nat} {M : List (Int × Bool)} (hi : h[i]? = some (some (.map (gG M)))) (k : Int) : lZ h (false,[true]) (.bool false) false (.map i) (.int .i64 k) = some (.bool (gJ M k)) := by
 simp only [lZ,hi]
 rw [if_neg (by simp [keq,bU,ceq])]
 rcases vN k true M 0 with ⟨h1,h2,_⟩ | ⟨j,h1,_⟩
 · rw [h1]; simp [h2]
 · rw [h1]; simp
theorem mput_B {i : Nat} {M : List (Int × Bool)} (hi : h[i]? = some (some (.map (gG M)))) (k : Int) (b : Bool) : jI h (false,[true]) (.map i) (.int .i64 k) (.bool b) = some (.undef,h.set i (some (.map (gG (jE M k b))))) := by
 simp only [jI,hi]
 rw [if_neg (by simp [keq,bU,ceq])]
 rcases vN k b M 0 with ⟨h1,_,h3⟩ | ⟨j,h1,h2⟩
 · rw [h1,h3]; simp [gG]
 · rw [h1]; simp only [Nat.zero_add,h2]
end Go.Proofs.Ab
namespace Go.Proofs.Ab
open Go Go.Proofs
variable {w0 : World} {h : aA}
attribute [local irreducible] ACall bC cM bG dO rvC lp rg dr ex un rv
theorem vR {α : Type} {a b : List α} (hl : a.length = b.length) (h : ∀ (i : Nat) (x y : α),a[i]? = some x → b[i]? = some y → x = y) : a = b := List.ext_getElem? fun i => by
 by_cases hi : i < a.length
 · have := h i _ _ (qA hi) (qA (hl ▸ hi))
   rw [qA hi,qA (hl ▸ hi),this]
 · rw [List.getElem?_eq_none (by omega),List.getElem?_eq_none (by omega)]
theorem qJ {x y : AV} {a b : List Int} (hx : SlI w0 h x a) (hy : SlI w0 h y b) (hn : a.length < 1000000) : bG Tryz.prog w0 21 [x,y] h (.bool (decide (a = b))) h := by
 refine aX aW xJ aBJ aBI (qE rfl) (by simp [AV.bdd,AV.bdds]) fun hb ha => bF ?_
 have la := (SlI.use hx).1
 have lb := (SlI.use hy).1
 by_cases hl : a.length = b.length
 · have e1 : ((a.length : Int) != b.length) = false := by simp [hl]
   have e1' : (a.length : Int) = b.length := by omega
   simp only [go_sem,mf21,la,lb,e1,e1']
   refine gU (fun j => [(0,x),(1,y),(5,.int .i64 j)]) (fun j => ∀ u v,a[j]? = some u → b[j]? = some v → u = v) a.length rfl (fun j hj hall ih => ?_) (fun hall => ?_)
   · refine aT aW zE [0,1,5] L21_0.eq_1 ?_
     obtain ⟨p,i1,r1,r1'⟩ := hx.at_ hj
     obtain ⟨q,i2,r2,r2'⟩ := hy.at_ (hl ▸ hj)
     have e2 : (j : Int) < b.length := by omega
     by_cases e3 : a[j] = b[j]'(hl ▸ hj)
     · simp only [go_sem,la,lb,e1',e2,i1,i2,r1,r2,r1',r2',e3]
       refine ⟨(by unfold I64; omega),ih fun u v hu hv => ?_⟩
       rw [qA hj] at hu
       rw [qA (hl ▸ hj)] at hv
       cases hu; cases hv; exact e3
     · simp only [go_sem,la,lb,e1',e2,i1,i2,r1,r2,r1',r2',e3]
       have : a ≠ b := fun e => e3 (by simp [e])
       simp [this]
   · refine aT aW zE [0,1,5] L21_0.eq_1 ?_
     have e2 : ¬ (a.length : Int) < a.length := by omega
     have : a = b := vR hl fun i u v hu hv => hall i (aL hu) u v hu hv
     simp only [go_sem,la,e2]
     simp [this]
 · have e1 : ¬ (a.length : Int) = b.length := by omega
   simp only [go_sem,mf21,la,lb,e1]
   have : a ≠ b := fun e => hl (by rw [e])
   simp [this]
end Go.Proofs.Ab
namespace Go.Proofs.Ab
open Go Go.Proofs
variable {w : World} {h : aA} {cs : List Value}
theorem int_of {v : Value} (g : Gd w (.int .nil) [v]) : ∃ n : Int,inj v = .int .i64 n ∧ I64 n := by
 obtain ⟨n,_,e,h,rfl⟩ := g
 cases e; exact ⟨n,rfl,h⟩
end Go.Proofs.Ab
namespace Go.Proofs.Ab
open Go Go.Proofs
variable {w0 : World} {h : aA}
attribute [local irreducible] ACall bC cM bG dO rvC lp rg dr ex un rv
structure aF where
 kind : Int
 thing : Int
@[go_sem] def aF.c (s : aF) : List AV := [.int .i64 s.kind,.int .i64 s.thing]
def PrR (w0 : World) (h : aA) (x : List aF) (c : List AV) : Prop := ∃ sv,c = [sv] ∧ Sl w0 h 2 sv (x.map aF.c)
def PS (w0 : World) (h : aA) (v : AV) (l : List (List aF)) : Prop := NS w0 h 1 (PrR w0 h) v l
theorem PS.sub {H : aA} {v : AV} {l : List (List aF)} (s : PS w0 h v l) (t : aE h H) : PS w0 H v l := NS.mono s t fun x c ⟨sv,e,r⟩ => ⟨sv,e,r.sub t⟩
theorem PS.app {L : aA} {v : AV} {l : List (List aF)} (s : PS w0 h v l) : PS w0 (h ++ L) v l := s.sub aE.refl.app
theorem PS.at_ {v : AV} {l : List (List aF)} (s : PS w0 h v l) {j : Nat} (hj : j < l.length) : ∃ (p : Pl) (sv : AV),dG 1 v (some j) = some (.ptr p) ∧ (∀ L,rd w0 (h ++ L) p = some sv) ∧ rd w0 h p = some sv ∧ Sl w0 h 2 sv (l[j].map aF.c) := by
 obtain ⟨p,c,h1,h2,sv,rfl,h3⟩ := NS.at_ s hj
 have h4 := h2 []
 rw [List.append_nil] at h4
 exact ⟨p,sv,h1,fun L => rd_0 (h2 L) rfl,rd_0 h4 rfl,h3⟩
theorem PS.len {v : AV} {l : List (List aF)} (s : PS w0 h v l) : gA v = some (.int .i64 l.length) := NS.len s
theorem aFk {sv : AV} {x : List aF} (hx : Sl w0 h 2 sv (x.map aF.c)) : bG Tryz.prog w0 129 [sv] h (.bool (decide (6 < x.length))) h := by
 refine aX aW tC xY xX (qE rfl) (by simp [AV.bdd,AV.bdds]) fun hb ha => bF ?_
 have hlen : gA sv = some (.int .i64 x.length) := by have := hx.use.1; rwa [List.length_map] at this
 simp only [go_sem,mf129,hlen]
 simp only [gt_iff_lt,AV.bool.injEq,decide_eq_decide]; omega
def dF (l : List (List aF)) : Bool := l.any fun x => decide (6 < x.length)
theorem aCA {v : AV} {l : List (List aF)} (hv : PS w0 h v l) (hn : l.length < 1000000) : bG Tryz.prog w0 144 [v,.fn (.func 129) [] []] h (.int .i64 (match l.findIdx? fun x => decide (6 < x.length) with | some j => (j : Int) | none => -1)) h := by
 refine aX aW sZ xU xT (qE rfl) (by simp [AV.bdd,AV.bdds]) fun hb ha => bF ?_
 have hlen := hv.len
 have vb := NS.bdd hv (Nat.le_refl _)
 simp only [go_sem,mf144,hlen]
 refine gU (fun j => [(0,v),(1,.fn (.func 129) [] []),(7,.int .i64 l.length),(8,.int .i64 j)]) (fun j => ∀ x,l[j]? = some x → ¬ 6 < x.length) l.length rfl (fun j hj hall ih => ?_) (fun hall => ?_)
 · refine aT aW uG [0,1,7,8] L144_0.eq_1 ?_
   have e1 : (j : Int) < l.length := by omega
   obtain ⟨p,sv,i1,r1,r1',hs⟩ := hv.at_ hj
   simp only [go_sem,e1,i1,r1,r1']
   refine aI (bG.vc (P := Tryz.prog) (first := []) (capt := []) (aFk hs.app)) ?_
   by_cases q : 6 < l[j].length
   · have hf : l.findIdx? (fun x => decide (6 < x.length)) = some j := by
      rw [List.findIdx?_eq_some_iff_getElem]
      exact ⟨hj,by simp [q],fun i hi => by simpa using hall i hi _ (qA (by omega))⟩
     rw [decide_eq_true q,hf]
     simp only [go_sem]
   · rw [decide_eq_false q]
     simp only [go_sem]
     exact ⟨(by unfold I64; omega),ih fun x hx => by rw [qA hj] at hx; cases hx; exact q⟩
 · refine aT aW uG [0,1,7,8] L144_0.eq_1 ?_
   have e1 : ¬ (l.length : Int) < l.length := by omega
   have hf : l.findIdx? (fun x => decide (6 < x.length)) = none := by
    rw [List.findIdx?_eq_none_iff]
    intro x hx
    obtain ⟨i,hi,rfl⟩ := List.getElem_of_mem hx
    simpa using hall i hi _ (qA hi)
   rw [hf]
   simp only [go_sem,e1]
theorem long_c {v : AV} {l : List (List aF)} (hv : PS w0 h v l) (hn : l.length < 1000000) : bG Tryz.prog w0 83 [v] h (.bool (dF l)) h := by
 refine aX aW xH aBF aBE (qE rfl) (by simp [AV.bdd,AV.bdds]) fun hb ha => bF ?_
 simp only [go_sem,mf83]
 have hc : ∀ {H : aA},PS w0 H v l → bG Tryz.prog w0 128 [v,.fn (.func 129) [] []] H (.bool (dF l)) H := by
  clear hv hb ha
  intro h hv
  refine aX aW tD yC xZ (qE rfl) (by simp [AV.bdd,AV.bdds]) fun hb ha => bF ?_
  simp only [go_sem,mf128]
  refine aI (aCA hv.app hn).v ?_
  cases hf : l.findIdx? fun x => decide (6 < x.length) with
  | none =>
   have : dF l = false := by
    rw [List.findIdx?_eq_none_iff] at hf
    rw [dF,List.any_eq_false]; exact fun x hx => by simp [hf x hx]
   simp only [go_sem]
   rw [this]
  | some j =>
   have : dF l = true := by
    rw [List.findIdx?_eq_some_iff_getElem] at hf
    obtain ⟨hj,h1,_⟩ := hf
    rw [dF,List.any_eq_true]; exact ⟨_,qG hj,h1⟩
   have e : (j : Int) ≥ 0 := by omega
   simp only [go_sem,e]
   rw [this]
 refine aI (hc hv.app).v ?_
 simp only [go_sem]
theorem wS {v : AV} {l : List (List aF)} (hv : PS w0 h v l) (hn : l.length < 1000000) : bG Tryz.prog w0 34 [v] h (.bool (dF l)) h := by
 refine aX aW aDY mf34_b mf34_g (qE rfl) (by simp [AV.bdd,AV.bdds]) fun hb ha => bF ?_
 have hlen := hv.len
 simp only [go_sem,mf34]
 refine gU (fun j => [(0,v),(3,.int .i64 j)]) (fun j => ∀ x,l[j]? = some x → ¬ 6 < x.length) l.length rfl (fun j hj hall ih => ?_) (fun hall => ?_)
 · refine aT aW zB [0,3] L34_0.eq_1 ?_
   have e1 : (j : Int) < l.length := by omega
   obtain ⟨p,sv,i1,r1,r1',hs⟩ := hv.at_ hj
   have hls : gA sv = some (.int .i64 l[j].length) := by have := hs.use.1; rwa [List.length_map] at this
   by_cases q : 6 < l[j].length
   · have q' : (l[j].length : Int) > 6 := by omega
     have : dF l = true := by rw [dF,List.any_eq_true]; exact ⟨_,qG hj,by simp [q]⟩
     simp only [go_sem,hlen,e1,i1,r1,r1',hls,q']
     rw [this]
   · have q' : ¬ (l[j].length : Int) > 6 := by omega
     simp only [go_sem,hlen,e1,i1,r1,r1',hls,q']
     exact ⟨(by unfold I64; omega),ih fun x hx => by rw [qA hj] at hx; cases hx; exact q⟩
 · refine aT aW zB [0,3] L34_0.eq_1 ?_
   have e1 : ¬ (l.length : Int) < l.length := by omega
   have : dF l = false := by
    rw [dF,List.any_eq_false]
    intro x hx
    obtain ⟨i,hi,rfl⟩ := List.getElem_of_mem hx
    simpa using hall i hi _ (qA hi)
   simp only [go_sem,hlen,e1]
   rw [this]
def nT (l : List (List aF)) : Bool := (l.all fun x => decide (x.length ≤ 20)) && decide (l.length ≤ 12)
theorem lean_c {v : AV} {l : List (List aF)} (hv : PS w0 h v l) (hn : l.length ≤ 9223372036854775807) : bG Tryz.prog w0 32 [v] h (.bool (nT l)) h := by
 refine aX aW aD0 mf32_b mf32_g (qE rfl) (by simp [AV.bdd,AV.bdds]) fun hb ha => bF ?_
 have hlen := hv.len
 simp only [go_sem,mf32]
 refine gU (fun j => [(0,v),(3,.int .i64 j)]) (fun j => ∀ x,l[j]? = some x → x.length ≤ 20) l.length rfl (fun j hj hall ih => ?_) (fun hall => ?_)
 · refine aT aW zD [0,3] L32_0.eq_1 ?_
   have e1 : (j : Int) < l.length := by omega
   obtain ⟨p,sv,i1,r1,r1',hs⟩ := hv.at_ hj
   have hls : gA sv = some (.int .i64 l[j].length) := by have := hs.use.1; rwa [List.length_map] at this
   by_cases q : 20 < l[j].length
   · have q' : (l[j].length : Int) > 20 := by omega
     have : nT l = false := by rw [nT,List.all_eq_false.2 ⟨_,qG hj,by simp; omega⟩]; rfl
     simp only [go_sem,hlen,e1,i1,r1,r1',hls,q']
     rw [this]
   · have q' : ¬ (l[j].length : Int) > 20 := by omega
     simp only [go_sem,hlen,e1,i1,r1,r1',hls,q']
     exact ⟨(by unfold I64; omega),ih fun x hx => by rw [qA hj] at hx; cases hx; omega⟩
 · refine aT aW zD [0,3] L32_0.eq_1 ?_
   have e1 : ¬ (l.length : Int) < l.length := by omega
   have : (l.all fun x => decide (x.length ≤ 20)) = true := by
    rw [List.all_eq_true]
    intro x hx
    obtain ⟨i,hi,rfl⟩ := List.getElem_of_mem hx
    simpa using hall i hi _ (qA hi)
   simp only [go_sem,hlen,e1]
   rw [nT,this]
   simp only [Bool.true_and,AV.bool.injEq,decide_eq_decide]; omega
end Go.Proofs.Ab
namespace Go.Proofs.Ab
open Go Go.Proofs
variable {w : World} {h : aA} {cs : List Value}
def aAQ : Rw := .int (.int .nil)
theorem aBh {v : Value} (g : Gd w (.sl (.sl aAQ .nil) .nil) [v]) : ∃ l : List (List aF),PS w h (inj v) l ∧ l.length ≤ 9223372036854775807 := by
 obtain ⟨_,_,e,g,rfl⟩ := g
 cases e
 obtain ⟨rows,h1,h2,h3⟩ := wQ (h := h) g
 obtain ⟨l,rfl,hl⟩ := nL (f := fun x : AV × List aF => [x.1]) (p := fun x => Sl w h 2 x.1 (x.2.map aF.c)) (rows := rows) fun c hc => by
  obtain ⟨cs,rfl,u,_,rfl,g2,rfl⟩ := h3 c hc
  obtain ⟨q,hq,_⟩ := aA4 (h := h) aF.c rfl g2 fun _ g => by
   obtain ⟨a,_,rfl,_,b,_,rfl,_,rfl⟩ := g
   exact ⟨⟨a,b⟩,rfl⟩
  exact ⟨(inj u,q),rfl,hq⟩
 refine ⟨l.map Prod.snd,⟨_,by simp,h1,fun j x c hx hc => ?_⟩,by simpa using h2⟩
 simp only [List.getElem?_map,qD] at hx hc
 obtain ⟨a,a1,rfl⟩ := hx
 obtain ⟨b,b1,rfl⟩ := hc
 rw [a1] at b1; cases b1
 exact ⟨a.1,rfl,hl _ (List.mem_of_getElem? a1)⟩
end Go.Proofs.Ab

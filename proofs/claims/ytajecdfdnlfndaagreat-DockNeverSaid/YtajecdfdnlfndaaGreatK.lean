/- The own layer under the proofs of this seat, part K: what calls of the program come to on an abstract heap. No condition. -/
import Derived.Test.YtajecdfdnlfndaaGreatJ
import Derived.Test.YtajecdfdnlfndaaGreatG
set_option linter.unusedSimpArgs false
set_option linter.unusedVariables false
namespace Go.Proofs.Ab
open Go Go.Proofs
variable {w0 : World} {h : aA}
attribute [local irreducible] ACall bA bW aY cP rvC lp rg dr ex un rv
theorem in_c (x lo hi : Int) : aY Tryz.prog w0 97 [.int .i64 x,.int .i64 lo,.int .i64 hi] h (.bool (inB x lo hi)) h := by
 refine aS aV xB aBv aBu (qE rfl) (by simp [AV.bdd,AV.bdds]) fun hb ha => bF ?_
 simp only [go_sem,mf97]
 exact ⟨fun a => by simp [inB,a],fun a => by simp [inB,a]⟩
theorem wS (x lo hi : Int) : aY Tryz.prog w0 82 [.int .i64 x,.int .i64 lo,.int .i64 hi] h (.bool (inB x lo hi)) h := by
 refine aS aV aDJ mf82_b mf82_g (qE rfl) (by simp [AV.bdd,AV.bdds]) fun hb ha => bF ?_
 simp only [go_sem,mf82]
 exact ⟨fun a => by simp [inB,a],fun a => by simp [inB,a]⟩
theorem fQ {α : Type} {l : List α} (d : α) {p : α → Bool} : (List.range l.length).all (fun j => p (l.getD j d)) = l.all p := by
 rw [Bool.eq_iff_iff,List.all_eq_true,List.all_eq_true]
 constructor
 · intro x a ha
   obtain ⟨i,hi,rfl⟩ := List.getElem_of_mem ha
   have := x i (List.mem_range.2 hi)
   rwa [getD_at hi] at this
 · intro x j hj
   have hj := List.mem_range.1 hj
   rw [getD_at hj]
   exact x _ (qG hj)
theorem aCJ {α : Type} {l : List α} {d x : α} {j : Nat} (e : l[j]? = some x) : l.getD j d = x := by simp [List.getD_eq_getElem?_getD,e]
theorem own_ix {es i n j : Nat} {f : Bool} (h : j < n) : dH es (.sl (.own i 0) n es f) (some j) = some (.ptr (.own i (j * es))) := by simp [dH,iF,Pl.add,h]
theorem jV {n : Nat} : (if (0 : Int) ≤ (n : Int) then some (n : Int).toNat else none) = some n := by rw [if_pos (by omega),Int.toNat_natCast]
theorem aC0 (rows : List (List AV)) (v fv : AV) (p : Nat → Bool) (hv : Sl w0 h 1 v rows) (ho : ∀ c ∈ rows,c.all one = true) (hn : rows.length < 1000000)
 (hf : ∀ (j : Nat) c,rows[j]? = some c → (∀ i,i < j → p i = true) → ∀ L,cP Tryz.prog w0 fv [c.headD .undef] (h ++ L) (.bool (p j)) (h ++ L)) : aY Tryz.prog w0 95 [v,fv] h (.bool ((List.range rows.length).all p)) h := by
 refine aS aV xC aBx aBw (qE rfl) (by simp [AV.bdd,AV.bdds]) fun hb ha => bF ?_
 have hfb : fv.bdd h.length := by simp only [AV.bdds] at ha; exact ha.2.1
 obtain ⟨hlen,q,hix,hrow,_⟩ := hv.use
 have vb := hv.bdd (Nat.le_refl _)
 simp only [go_sem,mf95,hlen]
 refine fT (fun j => [(1,fv),(7,v),(8,.int .i64 rows.length),(9,.int .i64 j)]) (fun j => p j = true) rows.length rfl (fun j hj hall ih => ?_) (fun hall => ?_)
 · refine aQ aV zC [1,7,8,9] L95_0.eq_1 ?_
   have e1 := hix j hj
   have e3 : (j : Int) < rows.length := by omega
   obtain ⟨c,hc⟩ : ∃ c,rows[j]? = some c := ⟨_,qA hj⟩
   have hl : c.length = 1 := (wW (hrow j _ hc)).1
   have e2 : ∀ L,rdn w0 (h ++ L) (q.add (j * 1)) 1 = some c := fun L => fB (hrow j _ hc)
   have ho := ho c (List.mem_of_getElem? hc)
   obtain ⟨x0,rfl⟩ : ∃ x0,c = [x0] := by
    match c,hl with
    | [x0],_ => exact ⟨x0,rfl⟩
   have e4 : ∀ L,rd w0 (h ++ L) (q.add (j * 1)) = some x0 := fun L => rd_0 (e2 L) rfl
   simp only [go_sem,e1,e4,e3,ho]
   refine aI (by simpa using hf j _ hc hall []) ?_
   simp only [go_sem]
   refine ⟨fun e => ?_,fun e => ⟨(by unfold I64; omega),?_⟩⟩
   · have : (List.range rows.length).all p = false := by
      rw [List.all_eq_false]; exact ⟨j,List.mem_range.2 hj,by simp [e]⟩
     rw [this]
     exact ⟨rfl,[],(List.append_nil _).symm⟩
   · simpa using ih e
 · refine aQ aV zC [1,7,8,9] L95_0.eq_1 ?_
   have e3 : ¬ (rows.length : Int) < rows.length := by omega
   simp only [go_sem,e3]
   have : (List.range rows.length).all p = true := by rw [List.all_eq_true]; exact fun x hx => hall x (List.mem_range.1 hx)
   rw [this]
structure CntD where
 dock : Int
 plane : Int
 people : Int
 jackets : Int
@[go_sem] def CntD.c (s : CntD) : List AV := [.int .i64 s.dock,.int .i64 s.plane,.int .i64 s.people,.int .i64 s.jackets]
@[simp] theorem CntD.c_bdd (N : Nat) (s : CntD) : AV.bdds N s.c := by simp [CntD.c,AV.bdds,AV.bdd]
end Go.Proofs.Ab
namespace Go.Proofs.Ab
open Go Go.Proofs
structure BrdD where
 people : Int
 jackets : Int
@[go_sem] def BrdD.c (s : BrdD) : List AV := [.int .i64 s.people,.int .i64 s.jackets]
end Go.Proofs.Ab
namespace Go.Proofs.Ab
open Go Go.Proofs
variable {w0 : World} {h : aA}
attribute [local irreducible] ACall bA bW aY cP rvC lp rg dr ex un rv
theorem mS {v : AV} {l : List Int} (hv : SlI w0 h v l) (hn : l.length < 1000000) (hne : l ≠ []) : ACall Tryz.prog w0 90 [v] h fun y H => y = .sl (.own (h.length + 1) 0) l.length 1 false ∧ H = h ++ [some (.row []),some (.row (iis l))] := by
 refine dW aV qS vE vD (qE rfl) fun hb ha => bF ?_
 have hv' := hv
 rcases hv with ⟨h1,h2⟩ | ⟨q,f,⟨es',h1,h4⟩,h2,h3⟩
 · simp at h2; exact absurd h2 hne
 rw [List.length_map] at h1
 subst h1
 simp only [go_sem,mf90]
 have hflat : (l.map fun z => [AV.int .i64 z]).flatten = iis l := by
  clear hv' h3 ha hne hn
  induction l with
  | nil => rfl
  | cons x r ih => simp only [List.map_cons,List.flatten_cons,ih]; rfl
 have hall : rdn w0 h q (l.length * 1) = some (iis l) := by
  have := Sl.all (w0 := w0) (H := h) (es := 1) (p := q) (rows := l.map fun z => [AV.int .i64 z]) (by simpa using hne) h3
  rwa [List.length_map,hflat] at this
 have hl0 : l.length ≠ 0 := fun e => hne (List.length_eq_zero_iff.1 e)
 have hone : (iis l).all one = true := List.all_eq_true.2 fun x hx => by
  simp only [iis,List.mem_map] at hx
  obtain ⟨z,_,rfl⟩ := hx; rfl
 have hap : cT w0 (h ++ [some (.row [])]) 1 8 (.sl (.own h.length 0) 0 1 true) (.sl q l.length es' f) = some (.sl (.own (h.length + 1) 0) l.length 1 false,h ++ [some (.row []),some (.row (iis l))]) := by
  have r1 : rdn w0 (h ++ [some (.row [])]) q (l.length * 1) = some (iis l) := fB hall
  have r2 : rdn w0 (h ++ [some (.row [])]) (.own h.length 0) (0 * 1) = some [] := by simp [rdn]
  simp only [cT,eL,h4,if_true,r1,Option.map_some,Option.bind_some]
  rw [if_neg hl0,if_pos ⟨by simp [iF],by omega,hone⟩,r2]
  simp [fK]
 rw [hap]
 have hbb : ∀ N,AV.bdds N (iis l) := fun N => aW.2 fun x hx => by
  simp only [iis,List.mem_map] at hx
  obtain ⟨z,_,rfl⟩ := hx; exact trivial
 have hbh : HB (h ++ [some (.row []),some (.row (iis l))]) := wA hb (by
  intro b hb
  simp only [List.mem_cons,Option.some.injEq,List.not_mem_nil,or_false] at hb
  rcases hb with rfl | rfl
  · exact aW.1 trivial
  · exact aW.1 (hbb _))
 simp only [go_sem]
 exact ⟨_,[],(List.append_nil _).symm,by simp,hbh,by simp [AV.bdd,Pl.bdd],rfl⟩
end Go.Proofs.Ab
namespace Go.Proofs.Ab
open Go Go.Proofs
def stay (l : List gQ) (i : Nat) : gQ := l.getD i ⟨0,0,0,0⟩
def eG : List Int → List Int → Bool
 | a :: r,b :: s => if a = b then eG r s else decide (a < b)
 | _,_ => false
theorem tZ (p r s : List Int) : eG (p ++ r) (p ++ s) = eG r s := by
 induction p with
 | nil => rfl
 | cons a p ih => simp [eG,ih]
theorem aCX (r : List Int) : eG r r = false := by
 induction r with
 | nil => rfl
 | cons a p ih => simp [eG,ih]
end Go.Proofs.Ab
namespace Go.Proofs.Ab
open Go Go.Proofs
variable {w0 : World} {h : aA}
def gM (M : List (Int × Bool)) : List (AV × AV) := M.map fun m => (.int .i64 m.1,.bool m.2)
def gP : List (Int × Bool) → Int → Bool
 | [],_ => false
 | m :: M,k => if m.1 = k then m.2 else gP M k
def jF : List (Int × Bool) → Int → Bool → List (Int × Bool)
 | [],k,b => [(k,b)]
 | m :: M,k,b => if m.1 = k then (k,b) :: M else m :: jF M k b
theorem tK (k k' : Int) (b : Bool) : ∀ M,gP (jF M k b) k' = if k' = k then b else gP M k'
 | [] => by simp only [jF,gP]; split <;> split <;> simp_all
 | m :: M => by
  have ih := tK k k' b M
  simp only [jF]
  by_cases e : m.1 = k
  · rw [if_pos e]; simp only [gP]
    by_cases e2 : k' = k
    · subst e2; simp
    · rw [if_neg (fun x => e2 x.symm),if_neg e2,if_neg (by rw [e]; exact fun x => e2 x.symm)]
  · rw [if_neg e]; simp only [gP,ih]
    by_cases e3 : m.1 = k'
    · rw [if_pos e3,if_neg (by rw [← e3]; exact e),if_pos e3]
    · rw [if_neg e3,if_neg e3]
theorem vM (k : Int) (b : Bool) : ∀ (M : List (Int × Bool)) (a : Nat),(dI (false,[true]) (.int .i64 k) (gM M) a = some none ∧ gP M k = false ∧ jF M k b = M ++ [(k,b)]) ∨
 ∃ j,dI (false,[true]) (.int .i64 k) (gM M) a = some (some (a + j,.bool (gP M k))) ∧ (gM M).set j (.int .i64 k,.bool b) = gM (jF M k b)
 | [],a => .inl ⟨rfl,rfl,rfl⟩
 | m :: M,a => by
  by_cases e : m.1 = k
  · refine .inr ⟨0,?_,?_⟩
    · simp [gM,dI,keq,bX,ceq,gP,e]
    · simp [gM,jF,e]
  · have e1 : dI (false,[true]) (.int .i64 k) (gM (m :: M)) a = dI (false,[true]) (.int .i64 k) (gM M) (a + 1) := by
     have e0 : (k == m.1) = false := by simpa using fun x => e x.symm
     simp [gM,dI,keq,bX,ceq,e0]
    rcases vM k b M (a + 1) with ⟨h1,h2,h3⟩ | ⟨j,h1,h2⟩
    · exact .inl ⟨by rw [e1,h1],by simp [gP,e,h2],by simp [jF,e,h3]⟩
    · refine .inr ⟨j + 1,by rw [e1,h1,show a + 1 + j = a + (j + 1) by omega]; simp [gP,e],?_⟩
      rw [jF,if_neg e]
      simp only [gM,List.map_cons,List.set_cons_succ] at h2 ⊢
      rw [h2]
theorem look_B {i : Nat} {M : List (Int × Bool)} (hi : h[i]? = some (some (.map (gM M)))) (k : Int) : lV h (false,[true]) (.bool false) false (.map i) (.int .i64 k) = some (.bool (gP M k)) := by
 simp only [lV,hi]
 rw [if_neg (by simp [keq,bX,ceq])]
 rcases vM k true M 0 with ⟨h1,h2,_⟩ | ⟨j,h1,_⟩
 · rw [h1]; simp [h2]
 · rw [h1]; simp
theorem mput_B {i : Nat} {M : List (Int × Bool)} (hi : h[i]? = some (some (.map (gM M)))) (k : Int) (b : Bool) : jJ h (false,[true]) (.map i) (.int .i64 k) (.bool b) = some (.undef,h.set i (some (.map (gM (jF M k b))))) := by
 simp only [jJ,hi]
 rw [if_neg (by simp [keq,bX,ceq])]
 rcases vM k b M 0 with ⟨h1,_,h3⟩ | ⟨j,h1,h2⟩
 · rw [h1,h3]; simp [gM]
 · rw [h1]; simp only [Nat.zero_add,h2]
end Go.Proofs.Ab
namespace Go.Proofs.Ab
open Go Go.Proofs
variable {w0 : World} {h : aA}
attribute [local irreducible] ACall bA bW aY cP rvC lp rg dr ex un rv
end Go.Proofs.Ab
namespace Go.Proofs.Ab
open Go Go.Proofs
variable {w : World} {h : aA} {cs : List Value}
theorem int_of {v : Value} (g : Gd w (.int .nil) [v]) : ∃ n : Int,inj v = .int .i64 n ∧ I64 n := by
 obtain ⟨n,_,e,h,rfl⟩ := g
 cases e; exact ⟨n,rfl,h⟩
theorem aFu {v : Value} (g : Gd w (.sl (.int .nil) .nil) [v]) : ∃ l : List Int,SlI w h (inj v) l ∧ l.length ≤ 9223372036854775807 := by
 obtain ⟨_,_,e,h,rfl⟩ := g
 cases e; exact aFD h
end Go.Proofs.Ab
namespace Go.Proofs.Ab
open Go Go.Proofs
variable {w0 : World} {h : aA}
attribute [local irreducible] ACall bA bW aY cP rvC lp rg dr ex un rv
structure aF where
 kind : Int
 thing : Int
@[go_sem] def aF.c (s : aF) : List AV := [.int .i64 s.kind,.int .i64 s.thing]
def PrR (w0 : World) (h : aA) (x : List aF) (c : List AV) : Prop := ∃ sv,c = [sv] ∧ Sl w0 h 2 sv (x.map aF.c)
def PS (w0 : World) (h : aA) (v : AV) (l : List (List aF)) : Prop := NS w0 h 1 (PrR w0 h) v l
theorem PS.sub {H : aA} {v : AV} {l : List (List aF)} (s : PS w0 h v l) (t : aE h H) : PS w0 H v l := NS.mono s t fun x c ⟨sv,e,r⟩ => ⟨sv,e,r.sub t⟩
theorem PS.app {L : aA} {v : AV} {l : List (List aF)} (s : PS w0 h v l) : PS w0 (h ++ L) v l := s.sub aE.refl.app
theorem PS.at_ {v : AV} {l : List (List aF)} (s : PS w0 h v l) {j : Nat} (hj : j < l.length) : ∃ (p : Pl) (sv : AV),dH 1 v (some j) = some (.ptr p) ∧ (∀ L,rd w0 (h ++ L) p = some sv) ∧ rd w0 h p = some sv ∧ Sl w0 h 2 sv (l[j].map aF.c) := by
 obtain ⟨p,c,h1,h2,sv,rfl,h3⟩ := NS.at_ s hj
 have h4 := h2 []
 rw [List.append_nil] at h4
 exact ⟨p,sv,h1,fun L => rd_0 (h2 L) rfl,rd_0 h4 rfl,h3⟩
theorem PS.len {v : AV} {l : List (List aF)} (s : PS w0 h v l) : fF v = some (.int .i64 l.length) := NS.len s
theorem aFt {sv : AV} {x : List aF} (hx : Sl w0 h 2 sv (x.map aF.c)) : aY Tryz.prog w0 129 [sv] h (.bool (decide (6 < x.length))) h := by
 refine aS aV tA yC xZ (qE rfl) (by simp [AV.bdd,AV.bdds]) fun hb ha => bF ?_
 have hlen : fF sv = some (.int .i64 x.length) := by have := hx.use.1; rwa [List.length_map] at this
 simp only [go_sem,mf129,hlen]
 simp only [gt_iff_lt,AV.bool.injEq,decide_eq_decide]; omega
def dJ (l : List (List aF)) : Bool := l.any fun x => decide (6 < x.length)
theorem aCG {v : AV} {l : List (List aF)} (hv : PS w0 h v l) (hn : l.length < 1000000) : aY Tryz.prog w0 144 [v,.fn (.func 129) [] []] h (.int .i64 (match l.findIdx? fun x => decide (6 < x.length) with | some j => (j : Int) | none => -1)) h := by
 refine aS aV sY xW xV (qE rfl) (by simp [AV.bdd,AV.bdds]) fun hb ha => bF ?_
 have hlen := hv.len
 have vb := NS.bdd hv (Nat.le_refl _)
 simp only [go_sem,mf144,hlen]
 refine fT (fun j => [(0,v),(1,.fn (.func 129) [] []),(7,.int .i64 l.length),(8,.int .i64 j)]) (fun j => ∀ x,l[j]? = some x → ¬ 6 < x.length) l.length rfl (fun j hj hall ih => ?_) (fun hall => ?_)
 · refine aQ aV uH [0,1,7,8] L144_0.eq_1 ?_
   have e1 : (j : Int) < l.length := by omega
   obtain ⟨p,sv,i1,r1,r1',hs⟩ := hv.at_ hj
   simp only [go_sem,e1,i1,r1,r1']
   refine aI (aY.vc (P := Tryz.prog) (first := []) (capt := []) (aFt hs.app)) ?_
   by_cases q : 6 < l[j].length
   · have hf : l.findIdx? (fun x => decide (6 < x.length)) = some j := by
      rw [List.findIdx?_eq_some_iff_getElem]
      exact ⟨hj,by simp [q],fun i hi => by simpa using hall i hi _ (qA (by omega))⟩
     rw [decide_eq_true q,hf]
     simp only [go_sem]
   · rw [decide_eq_false q]
     simp only [go_sem]
     exact ⟨(by unfold I64; omega),ih fun x hx => by rw [qA hj] at hx; cases hx; exact q⟩
 · refine aQ aV uH [0,1,7,8] L144_0.eq_1 ?_
   have e1 : ¬ (l.length : Int) < l.length := by omega
   have hf : l.findIdx? (fun x => decide (6 < x.length)) = none := by
    rw [List.findIdx?_eq_none_iff]
    intro x hx
    obtain ⟨i,hi,rfl⟩ := List.getElem_of_mem hx
    simpa using hall i hi _ (qA hi)
   rw [hf]
   simp only [go_sem,e1]
theorem aCt {v : AV} {l : List (List aF)} (hv : PS w0 h v l) (hn : l.length < 1000000) : aY Tryz.prog w0 83 [v] h (.bool (dJ l)) h := by
 refine aS aV xK aBN aBM (qE rfl) (by simp [AV.bdd,AV.bdds]) fun hb ha => bF ?_
 simp only [go_sem,mf83]
 have hc : ∀ {H : aA},PS w0 H v l → aY Tryz.prog w0 128 [v,.fn (.func 129) [] []] H (.bool (dJ l)) H := by
  clear hv hb ha
  intro h hv
  refine aS aV tC yF yD (qE rfl) (by simp [AV.bdd,AV.bdds]) fun hb ha => bF ?_
  simp only [go_sem,mf128]
  refine aI (aCG hv.app hn).v ?_
  cases hf : l.findIdx? fun x => decide (6 < x.length) with
  | none =>
   have : dJ l = false := by
    rw [List.findIdx?_eq_none_iff] at hf
    rw [dJ,List.any_eq_false]; exact fun x hx => by simp [hf x hx]
   simp only [go_sem]
   rw [this]
  | some j =>
   have : dJ l = true := by
    rw [List.findIdx?_eq_some_iff_getElem] at hf
    obtain ⟨hj,h1,_⟩ := hf
    rw [dJ,List.any_eq_true]; exact ⟨_,qG hj,h1⟩
   have e : (j : Int) ≥ 0 := by omega
   simp only [go_sem,e]
   rw [this]
 refine aI (hc hv.app).v ?_
 simp only [go_sem]
theorem aDu {v : AV} {l : List (List aF)} (hv : PS w0 h v l) (hn : l.length < 1000000) : aY Tryz.prog w0 34 [v] h (.bool (dJ l)) h := by
 refine aS aV aD6 mf34_b mf34_g (qE rfl) (by simp [AV.bdd,AV.bdds]) fun hb ha => bF ?_
 have hlen := hv.len
 simp only [go_sem,mf34]
 refine fT (fun j => [(0,v),(3,.int .i64 j)]) (fun j => ∀ x,l[j]? = some x → ¬ 6 < x.length) l.length rfl (fun j hj hall ih => ?_) (fun hall => ?_)
 · refine aQ aV zJ [0,3] L34_0.eq_1 ?_
   have e1 : (j : Int) < l.length := by omega
   obtain ⟨p,sv,i1,r1,r1',hs⟩ := hv.at_ hj
   have hls : fF sv = some (.int .i64 l[j].length) := by have := hs.use.1; rwa [List.length_map] at this
   by_cases q : 6 < l[j].length
   · have q' : (l[j].length : Int) > 6 := by omega
     have : dJ l = true := by rw [dJ,List.any_eq_true]; exact ⟨_,qG hj,by simp [q]⟩
     simp only [go_sem,hlen,e1,i1,r1,r1',hls,q']
     rw [this]
   · have q' : ¬ (l[j].length : Int) > 6 := by omega
     simp only [go_sem,hlen,e1,i1,r1,r1',hls,q']
     exact ⟨(by unfold I64; omega),ih fun x hx => by rw [qA hj] at hx; cases hx; exact q⟩
 · refine aQ aV zJ [0,3] L34_0.eq_1 ?_
   have e1 : ¬ (l.length : Int) < l.length := by omega
   have : dJ l = false := by
    rw [dJ,List.any_eq_false]
    intro x hx
    obtain ⟨i,hi,rfl⟩ := List.getElem_of_mem hx
    simpa using hall i hi _ (qA hi)
   simp only [go_sem,hlen,e1]
   rw [this]
def nO (l : List (List aF)) : Bool := (l.all fun x => decide (x.length ≤ 20)) && decide (l.length ≤ 12)
theorem lean_c {v : AV} {l : List (List aF)} (hv : PS w0 h v l) (hn : l.length ≤ 9223372036854775807) : aY Tryz.prog w0 32 [v] h (.bool (nO l)) h := by
 refine aS aV aD7 mf32_b mf32_g (qE rfl) (by simp [AV.bdd,AV.bdds]) fun hb ha => bF ?_
 have hlen := hv.len
 simp only [go_sem,mf32]
 refine fT (fun j => [(0,v),(3,.int .i64 j)]) (fun j => ∀ x,l[j]? = some x → x.length ≤ 20) l.length rfl (fun j hj hall ih => ?_) (fun hall => ?_)
 · refine aQ aV zK [0,3] L32_0.eq_1 ?_
   have e1 : (j : Int) < l.length := by omega
   obtain ⟨p,sv,i1,r1,r1',hs⟩ := hv.at_ hj
   have hls : fF sv = some (.int .i64 l[j].length) := by have := hs.use.1; rwa [List.length_map] at this
   by_cases q : 20 < l[j].length
   · have q' : (l[j].length : Int) > 20 := by omega
     have : nO l = false := by rw [nO,List.all_eq_false.2 ⟨_,qG hj,by simp; omega⟩]; rfl
     simp only [go_sem,hlen,e1,i1,r1,r1',hls,q']
     rw [this]
   · have q' : ¬ (l[j].length : Int) > 20 := by omega
     simp only [go_sem,hlen,e1,i1,r1,r1',hls,q']
     exact ⟨(by unfold I64; omega),ih fun x hx => by rw [qA hj] at hx; cases hx; omega⟩
 · refine aQ aV zK [0,3] L32_0.eq_1 ?_
   have e1 : ¬ (l.length : Int) < l.length := by omega
   have : (l.all fun x => decide (x.length ≤ 20)) = true := by
    rw [List.all_eq_true]
    intro x hx
    obtain ⟨i,hi,rfl⟩ := List.getElem_of_mem hx
    simpa using hall i hi _ (qA hi)
   simp only [go_sem,hlen,e1]
   rw [nO,this]
   simp only [Bool.true_and,AV.bool.injEq,decide_eq_decide]; omega
end Go.Proofs.Ab
namespace Go.Proofs.Ab
open Go Go.Proofs
variable {w : World} {h : aA} {cs : List Value}
def aAY : Rw := .int (.int .nil)
theorem aBn {v : Value} (g : Gd w (.sl (.sl aAY .nil) .nil) [v]) : ∃ l : List (List aF),PS w h (inj v) l ∧ l.length ≤ 9223372036854775807 := by
 obtain ⟨_,_,e,g,rfl⟩ := g
 cases e
 obtain ⟨rows,h1,h2,h3⟩ := wQ (h := h) g
 obtain ⟨l,rfl,hl⟩ := nI (f := fun x : AV × List aF => [x.1]) (p := fun x => Sl w h 2 x.1 (x.2.map aF.c)) (rows := rows) fun c hc => by
  obtain ⟨cs,rfl,u,_,rfl,g2,rfl⟩ := h3 c hc
  obtain ⟨q,hq,_⟩ := rY (h := h) aF.c rfl g2 fun _ g => by
   obtain ⟨a,_,rfl,_,b,_,rfl,_,rfl⟩ := g
   exact ⟨⟨a,b⟩,rfl⟩
  exact ⟨(inj u,q),rfl,hq⟩
 refine ⟨l.map Prod.snd,⟨_,by simp,h1,fun j x c hx hc => ?_⟩,by simpa using h2⟩
 simp only [List.getElem?_map,qD] at hx hc
 obtain ⟨a,a1,rfl⟩ := hx
 obtain ⟨b,b1,rfl⟩ := hc
 rw [a1] at b1; cases b1
 exact ⟨a.1,rfl,hl _ (List.mem_of_getElem? a1)⟩
end Go.Proofs.Ab

/- The own layer under the proofs of this seat, part O: what calls of the program come to on an abstract heap. No condition. -/
import Derived.Test.YtajecdfdnlfndaaGreatN
import Derived.Test.YtajecdfdnlfndaaGreatM
set_option linter.unusedSimpArgs false
set_option linter.unusedVariables false
namespace Go.Proofs.Ab
open Go Go.Proofs
variable {w0 : World} {h : aA}
attribute [local irreducible] ACall bB cU bA dU rvC lp rg dr ex un rv
theorem aCn {v : AV} {l : List aD} (hv : Sl w0 h 3 v (l.map aD.c)) (hn : l.length ≤ 1000) (hne : l ≠ []) : ACall Tryz.prog w0 105 [v] h fun y H => y = .sl (.own (h.length + 1) 0) l.length 3 false ∧ H = h ++ [some (.row []),some (.row (l.map aD.c).flatten)] := by
 refine dH aV aBT aE4 aE3 (qE rfl) fun hb ha => bC ?_
 have hv' := hv
 rcases hv with ⟨h1,h2⟩ | ⟨q,f,⟨es',h1,h4⟩,h2,h3⟩
 · simp at h2; exact absurd h2 hne
 rw [List.length_map] at h1
 subst h1
 simp only [go_sem,mf105]
 have hall : rdn w0 h q (l.length * 3) = some (l.map aD.c).flatten := by
  have := Sl.all (w0 := w0) (H := h) (es := 3) (p := q) (rows := l.map aD.c) (by simpa using hne) h3
  rwa [List.length_map] at this
 have hl0 : l.length ≠ 0 := fun e => hne (List.length_eq_zero_iff.1 e)
 have hmem : ∀ x ∈ (l.map aD.c).flatten,∃ n : Int,x = .int .i64 n := fun x hx => by
  obtain ⟨c,hc,hx⟩ := List.mem_flatten.1 hx
  obtain ⟨r,_,rfl⟩ := List.mem_map.1 hc
  simp [aD.c] at hx
  rcases hx with rfl | rfl | rfl <;> exact ⟨_,rfl⟩
 have hone : (l.map aD.c).flatten.all one = true := List.all_eq_true.2 fun x hx => by obtain ⟨n,rfl⟩ := hmem x hx; rfl
 have hap : cT w0 (h ++ [some (.row [])]) 3 24 (.sl (.own h.length 0) 0 3 true) (.sl q l.length es' f) = some (.sl (.own (h.length + 1) 0) l.length 3 false,h ++ [some (.row []),some (.row (l.map aD.c).flatten)]) := by
  have r1 : rdn w0 (h ++ [some (.row [])]) q (l.length * 3) = some (l.map aD.c).flatten := dJ hall
  have r2 : rdn w0 (h ++ [some (.row [])]) (.own h.length 0) (0 * 3) = some [] := by simp [rdn]
  simp only [cT,fA,h4,if_true,r1,Option.map_some,Option.bind_some]
  rw [if_neg hl0,if_pos ⟨by simp [fV],by omega,hone⟩,r2]
  simp [eK]
 rw [hap]
 have hbb : ∀ N,AV.bdds N (l.map aD.c).flatten := fun N => aR.2 fun x hx => by obtain ⟨n,rfl⟩ := hmem x hx; exact trivial
 have hbh : HB (h ++ [some (.row []),some (.row (l.map aD.c).flatten)]) := vM hb (by
  intro b hb
  simp only [List.mem_cons,Option.some.injEq,List.not_mem_nil,or_false] at hb
  rcases hb with rfl | rfl
  · exact aR.1 trivial
  · exact aR.1 (hbb _))
 simp only [go_sem]
 exact ⟨_,[],(List.append_nil _).symm,by simp,hbh,by simp [AV.bdd,Pl.bdd],rfl⟩
theorem oI {l : List aD} (hl : l.all aX = true) (i : Nat) : (l.eraseIdx i).all aX = true := by
 rw [List.all_eq_true] at hl ⊢
 exact fun r hr => hl r (List.mem_of_mem_eraseIdx hr)
theorem oY {H : aA} {b n : Nat} {l k : List aD} {f : Bool} (hb : H[b]? = some (some (.row ((l ++ k).map aD.c).flatten))) (hn : n = l.length) : Sl w0 H 3 (.sl (.own b 0) n 3 f) (l.map aD.c) := by
 refine .inr ⟨.own b 0,f,⟨3,by rw [List.length_map,hn],fE⟩,aM hb,fun j c hc => ?_⟩
 rw [List.getElem?_map] at hc
 obtain ⟨r,hr,rfl⟩ := qD.1 hc
 have hj := aM hr
 have h1 : ((l ++ k).map aD.c)[j]? = some r.c := by rw [List.getElem?_map,qH hj,hr]; rfl
 obtain ⟨g1,g2,_⟩ := pU (es := 3) (rows := (l ++ k).map aD.c) (fun c hc => by obtain ⟨r,_,rfl⟩ := List.mem_map.1 hc; rfl) h1
 simp only [Pl.add,rdn,hb,Nat.zero_add]
 rw [if_pos g1,g2]
def iY (l : List aD) (w : bG) : Option Nat := (List.range l.length).find? fun i => (bK (l.eraseIdx i) w).isSome
def dY (l : List aD) (w : bG) : Int := match iY l w with
 | some i => i
 | none => -1
def gF (l : List aD) (w : bG) : List AV := if bM l w ≠ 0 then [.int .i64 0,.int .i64 (bM l w)] else if (bK l w).isSome then [.int .i64 0,.int .i64 7] else [.int .i64 (dY l w),.int .i64 0]
theorem aAC {l : List aD} {w : bG} {j : Nat} (hj : j < l.length) (hall : ∀ i,i < j → bK (l.eraseIdx i) w = none) (h : (bK (l.eraseIdx j) w).isSome = true) : dY l w = j := by
 have : iY l w = some j := by
  rw [iY,List.find?_range_eq_some]
  exact ⟨h,List.mem_range.2 hj,fun i hi => by rw [hall i hi]; rfl⟩
 rw [dY,this]
theorem tV {l : List aD} {w : bG} (hall : ∀ i,i < l.length → bK (l.eraseIdx i) w = none) : dY l w = -1 := by
 have : iY l w = none := by
  rw [iY,List.find?_eq_none]
  exact fun i hi => by rw [hall i (List.mem_range.1 hi)]; simp
 rw [dY,this]
theorem aFu (w : bG) {v : AV} {l : List aD} (hv : Sl w0 h 3 v (l.map aD.c)) : bA Tryz.prog w0 55 [v,.agg w.c] h (.tup (gF l w)) h := by
 have hbv : ∀ N,(AV.tup (gF l w)).bdd N := fun N => by
  unfold gF; split
  · simp [AV.bdd,AV.bdds]
  · split <;> simp [AV.bdd,AV.bdds]
 refine dT (hbv _) (bI aV aDM mf55_b mf55_g (qE rfl) fun hb ha => bC ?_)
 have hlen : jE v = some (.int .i64 l.length) := by have := hv.use.1; rwa [List.length_map] at this
 simp only [go_sem,mf55]
 refine aI (pF w hv.app).v ?_
 by_cases e : bM l w = 0
 · obtain ⟨hl8,hl,hw⟩ := gM e
   simp only [go_sem,e]
   refine aI (pT w hv.app hl (by omega) hw).v ?_
   cases hH : bK l w with
   | some fd =>
    simp only [go_sem,dN]
    exact ⟨aG.refl.app,by unfold gF; rw [if_neg (by simpa using e),hH]; rfl⟩
   | none =>
    have hV : gF l w = [.int .i64 (dY l w),.int .i64 0] := by unfold gF; rw [if_neg (by simpa using e),hH]; rfl
    rw [hV]
    simp only [go_sem,dN,hlen]
    obtain ⟨X,hX⟩ : ∃ X,X = h ++ [some (Blk.row [AV.int IntKind.i64 w.xl,AV.int IntKind.i64 w.xh,AV.int IntKind.i64 w.yl,AV.int IntKind.i64 w.yh]),some (Blk.row [AV.int IntKind.i64 0,AV.int IntKind.i64 0,AV.int IntKind.i64 0,AV.int IntKind.i64 0])] := ⟨_,rfl⟩
    have hXs : aG h X := hX ▸ aG.refl.app
    have hXw : X[h.length]? = some (some (.row w.c)) := by rw [hX,qI (Nat.le_refl _),Nat.sub_self]; rfl
    refine eL (S := Nat × aA) (F := fun s => [(0,v),(3,.ptr (.own h.length 0)),(27,.int .i64 l.length),(28,.int .i64 s.1)]) (H := fun s => s.2) (meas := fun s => l.length - s.1) (Inv := fun s => s.1 ≤ l.length ∧ aG X s.2 ∧ ∀ i,i < s.1 → bK (l.eraseIdx i) w = none) (0,X) ⟨Nat.zero_le _,aG.refl,fun i hi => by omega⟩ rfl (by rw [hX]) ?_
    rintro ⟨j,H⟩ ⟨hj,hs,hall⟩ ih
    simp only at hj hs hall ih ⊢
    refine bF aV aFz [0,3,27,28] L55_0.eq_1 ?_
    have hHw := hs.2 _ _ hXw
    have hsh := hXs.trans hs
    by_cases hjl : j < l.length
    · have e1 : (j : Int) < l.length := by omega
      have hne : l ≠ [] := fun e => by rw [e] at hjl; simp at hjl
      simp only [go_sem,e1]
      refine nB aV [0,1,3,4,5,2,6,7,8,9,10,11,12,13] [o_ 32 (.load (.t 3) (some 4)),o_ 33 (m_ 0),o_ 35 (m_ 9),o_ 36 (m_ 9),o_ 37 (.bin .add (.t 36) (i_ 1)),.call (some 34) none (f_ 105) [(.t 33)]] [([(0,o_ 32 (.load (.t 3) (some 4)))],[.call (some 38) none (f_ 104) [(.t 34),(.t 35),(.t 37)]]),([(0,o_ 32 (.load (.t 3) (some 4)))],[.call (some 39) none (f_ 80) [(.t 32),(.t 38)],o_ 31 (m_ 39),o_ 40 (.ext (.t 31) 0),o_ 41 (.ext (.t 31) 1),o_ 11 (.alloc [(.int .i64 0),(.int .i64 0),(.int .i64 0),(.int .i64 0)]),o_ 10 (m_ 40),.op none none (.store (.t 11) (.t 41) 4)])] rfl rfl (by kernel_rfl) ?_
      simp only [go_sem,hHw]
      refine ⟨(by unfold I64; omega),?_⟩
      refine aZ (ACall.vc (first := []) (aCn (w0 := w0) (hv.sub hsh) (by omega) hne)) ?_
      rintro _ _ ⟨rfl,rfl⟩
      obtain ⟨K,hK⟩ : ∃ K,K = H ++ [some (Blk.row []),some (Blk.row (l.map aD.c).flatten)] := ⟨_,rfl⟩
      have kb : K[H.length + 1]? = some (some (.row (l.map aD.c).flatten)) := by rw [hK,qI (by omega),show H.length + 1 - H.length = 1 by omega]; rfl
      have hKs : aG H K := hK ▸ aG.refl.app
      have hKw := hKs.2 _ _ hHw
      rw [← hK]
      simp only [go_sem,hKw]
      refine aZ (ACall.vc (first := []) (args := [.sl (.own (H.length + 1) 0) l.length 3 false,.int .i64 j,.int .i64 ((j : Int) + 1)]) (aCh (w0 := w0) kb hjl (by omega))) ?_
      rintro _ _ ⟨rfl,rfl⟩
      obtain ⟨U,hU⟩ : ∃ U,U = K.set (H.length + 1) (some (.row ((l.eraseIdx j ++ [uN]).map aD.c).flatten)) := ⟨_,rfl⟩
      have hhH := hsh.1
      have hXH := hs.1
      have hUs : aG X U := hU ▸ (hs.trans hKs).setR (by omega)
      have ub : U[H.length + 1]? = some (some (.row ((l.eraseIdx j ++ [uN]).map aD.c).flatten)) := by rw [hU,qF (aM kb)]
      have hUw := hUs.2 _ _ hXw
      rw [← hU]
      simp only [go_sem,hUw]
      have hel : (l.eraseIdx j).length = l.length - 1 := by rw [List.length_eraseIdx,if_pos hjl]
      refine aI (pT w (oY ub hel.symm) (oI hl j) (by omega) hw).v ?_
      cases hh : bK (l.eraseIdx j) w with
      | some fd =>
       simp only [go_sem,dN]
       exact ⟨(hXs.trans hUs).app,by rw [aAC hjl hall (by rw [hh]; rfl)]⟩
      | none =>
       simp only [go_sem,dN]
       refine ⟨(by unfold I64; omega),ih (j + 1,U ++ [some (Blk.row [AV.int IntKind.i64 0,AV.int IntKind.i64 0,AV.int IntKind.i64 0,AV.int IntKind.i64 0])]) ⟨by simp only; omega,hUs.app,fun i hi => ?_⟩ (by simp only; omega)⟩
       by_cases q : i = j
       · subst q; exact hh
       · exact hall i (by simp only at hi; omega)
    · have e1 : ¬ (j : Int) < l.length := by omega
      obtain rfl : j = l.length := by omega
      simp only [go_sem,e1]
      exact ⟨hsh,by rw [tV hall]⟩
 · simp only [go_sem,e]
   exact ⟨aG.refl.app,by unfold gF; rw [if_pos e]⟩
theorem nan_c (x : Int) : bA Tryz.prog w0 147 [.int .i64 x] h (.bool false) h := by
 refine aT aV sC wR wQ (qE rfl) (by simp [AV.bdd,AV.bdds]) fun hb ha => bC ?_
 simp only [go_sem,mf147]
 simp
theorem cmp_c (x y : Int) : bA Tryz.prog w0 138 [.int .i64 x,.int .i64 y] h (.int .i64 (if x < y then -1 else if x > y then 1 else 0)) h := by
 refine aT aV aBx aEm aEl (qE rfl) (by simp [AV.bdd,AV.bdds]) fun hb ha => bC ?_
 simp only [go_sem,mf138]
 refine aI (nan_c x).v ?_
 simp only [go_sem]
 refine aI (nan_c y).v ?_
 by_cases h1 : x < y
 · simp only [go_sem,h1]
 · by_cases h2 : x > y
   · simp only [go_sem,h1,h2]
   · simp only [go_sem,h1,h2]
def vC (a b : List Int) : Int := if a = b then 0 else if eT a b then -1 else 1
theorem aCu {a b : List Int} : ∀ {j : Nat} {x y : Int},(∀ i,i < j → a[i]? = b[i]?) → a[j]? = some x → b[j]? = some y → x ≠ y → eT a b = decide (x < y) ∧ a ≠ b := fun {j x y} h1 h2 h3 h4 => by
 have ha := aM h2
 have hb := aM h3
 have e : a.take j = b.take j := List.ext_getElem? fun i => by
  by_cases q : i < j
  · rw [List.getElem?_take_of_lt q,List.getElem?_take_of_lt q,h1 i q]
  · rw [List.getElem?_take_eq_none (by omega),List.getElem?_take_eq_none (by omega)]
 have ea : a = a.take j ++ x :: a.drop (j + 1) := by
  have := List.take_append_drop j a
  rw [List.drop_eq_getElem_cons ha,(List.getElem?_eq_some_iff.1 h2).2] at this
  exact this.symm
 have eb : b = a.take j ++ y :: b.drop (j + 1) := by
  have := List.take_append_drop j b
  rw [List.drop_eq_getElem_cons hb,(List.getElem?_eq_some_iff.1 h3).2,← e] at this
  exact this.symm
 constructor
 · rw [ea,eb,hJ,eT,if_neg h4]
 · intro q
   rw [q,h3] at h2
   cases h2
   exact h4 rfl
theorem aAd {xv yv : AV} {a b : List Int} (hx : SlI w0 h xv a) (hy : SlI w0 h yv b) (hl : a.length = b.length) (hn : a.length < 1000000) : bA Tryz.prog w0 106 [xv,yv] h (.int .i64 (vC a b)) h := by
 refine aT aV aBS aE2 aE1 (qE rfl) (by simp [AV.bdd,AV.bdds]) fun hb ha => bC ?_
 have hla := (SlI.use hx).1
 have hlb := (SlI.use hy).1
 simp only [go_sem,mf106,hla]
 refine mQ (fun j => [(0,xv),(1,yv),(9,xv),(10,.int .i64 a.length),(11,.int .i64 j)]) (fun j => a[j]? = b[j]?) a.length rfl (fun j hj hall ih => ?_) (fun hall => ?_)
 · refine bF aV tN [0,1,9,10,11] L106_0.eq_1 ?_
   have e1 : (j : Int) < a.length := by omega
   have hjb : j < b.length := by omega
   have e2 : ¬ (j : Int) ≥ b.length := by omega
   obtain ⟨p,i1,r1,r1'⟩ := hx.at_ hj
   obtain ⟨p2,i2,r2,r2'⟩ := hy.at_ hjb
   have ea : a[j]? = some a[j] := qA hj
   have eb : b[j]? = some b[j] := qA hjb
   simp only [go_sem,e1,i1,r1,r1',hlb,e2,i2,r2,r2']
   refine aI (cmp_c a[j] b[j]).v ?_
   rcases Int.lt_trichotomy a[j] b[j] with q | q | q
   · obtain ⟨g1,g2⟩ := aCu hall ea eb (by omega)
     simp only [go_sem,q]
     rw [vC,if_neg g2,g1,decide_eq_true q]; rfl
   · have e3 : ¬ a[j] < b[j] := by omega
     have e4 : ¬ a[j] > b[j] := by omega
     simp only [go_sem,e3,e4]
     exact ⟨(by unfold I64; omega),ih (by rw [ea,eb,q])⟩
   · obtain ⟨g1,g2⟩ := aCu hall ea eb (by omega)
     have e3 : ¬ a[j] < b[j] := by omega
     simp only [go_sem,e3,q]
     rw [vC,if_neg g2,g1,decide_eq_false e3]; rfl
 · refine bF aV tN [0,1,9,10,11] L106_0.eq_1 ?_
   have e1 : ¬ (a.length : Int) < a.length := by omega
   have e2 : ¬ (a.length : Int) < b.length := by omega
   have e3 : a = b := List.ext_getElem? fun i => by
    by_cases q : i < a.length
    · exact hall i q
    · rw [List.getElem?_eq_none (by omega),List.getElem?_eq_none (by omega)]
   simp only [go_sem,e1,hla,hlb,e2]
   rw [vC,if_pos e3]
def FewK (w0 : World) (H : aA) (y : AV) (l : List aD) (w : bG) : Prop :=
 if bM l w ≠ 0 then y = .tup [.nilS,.int .i64 (bM l w)] else match fewD l w with
  | none => y = .tup [.nilS,.int .i64 5]
  | some s => ∃ sv,y = .tup [sv,.int .i64 0] ∧ SlI w0 H sv (cst s)
def lH (w0 : World) (H : aA) (bv : AV) : Option (List Nat) → Prop
 | none => bv = .nilS
 | some s => SlI w0 H bv (cst s)
theorem lH.sub {G H : aA} {bv : AV} {o : Option (List Nat)} (a : lH w0 G bv o) (s : aG G H) : lH w0 H bv o := by
 cases o with
 | none => exact a
 | some t => exact Sl.sub a s
structure kJ (H0 H : aA) (sv mv : AV) (ios iom : Nat) (set : List Nat) (l : List aD) : Prop where
 sub : aG H0 H
 s : (set.length = 0 ∧ sv = .nilS) ∨ (set.length ≠ 0 ∧ H0.length ≤ ios ∧ sv = .sl (.own ios 0) set.length 1 false ∧ H[ios]? = some (some (.row (fD (cst set)))))
 m : (set.length = 0 ∧ mv = .nilS) ∨ (set.length ≠ 0 ∧ H0.length ≤ iom ∧ mv = .sl (.own iom 0) set.length 3 false ∧ H[iom]? = some (some (.row ((ofR l set).map aD.c).flatten)))
 ne : set.length ≠ 0 → ios ≠ iom
theorem jV {l : List aD} {s : List Nat} : (ofR l s).length = s.length := by simp [ofR]
section
variable {H0 H : aA} {sv mv : AV} {ios iom : Nat} {set : List Nat} {l : List aD}
theorem kJ.slI (a : kJ H0 H sv mv ios iom set l) : SlI w0 H sv (cst set) := by
 rcases a.s with ⟨h1,rfl⟩ | ⟨_,_,rfl,h2⟩
 · exact .inl ⟨rfl,by rw [List.eq_nil_of_length_eq_zero h1]; rfl⟩
 · exact aC5 h2 bT.symm
theorem kJ.sl (a : kJ H0 H sv mv ios iom set l) : Sl w0 H 3 mv ((ofR l set).map aD.c) := by
 rcases a.m with ⟨h1,rfl⟩ | ⟨_,_,rfl,h2⟩
 · exact .inl ⟨rfl,by rw [List.eq_nil_of_length_eq_zero h1]; rfl⟩
 · exact oY (k := []) (by rw [List.append_nil]; exact h2) jV.symm
theorem kJ.app {L : aA} (a : kJ H0 H sv mv ios iom set l) : kJ H0 (H ++ L) sv mv ios iom set l :=
 ⟨a.sub.app,a.s.imp (fun x => x) fun ⟨h1,h2,h3,h4⟩ => ⟨h1,h2,h3,aC h4⟩,a.m.imp (fun x => x) fun ⟨h1,h2,h3,h4⟩ => ⟨h1,h2,h3,aC h4⟩,a.ne⟩
theorem kJ.go (a : kJ H0 H sv mv ios iom set l) {i rb : Nat} {r : aD} (hb : H[rb]? = some (some (.row r.c))) (h1 : set.length ≠ 0 → rb ≠ ios ∧ rb ≠ iom) (hn : set.length ≤ 1000) :
 GO w0 H ⟨sv,mv,i,set.length,set.length,ios,iom,fD (cst set),((ofR l set).map aD.c).flatten,r.c⟩ (.own rb 0) := by
 refine ⟨?_,?_,fun h _ => a.ne h,?_,rfl,rfl,⟨hn,hn⟩⟩
 · rcases a.s with ⟨h1,h2⟩ | ⟨h1,h2,h3,h4⟩
   · exact .inl ⟨h1,h2,by rw [List.eq_nil_of_length_eq_zero h1]; rfl⟩
   · exact .inr ⟨h1,h3,h4,by rw [aB5,bT,Nat.mul_one]⟩
 · rcases a.m with ⟨h1,h2⟩ | ⟨h1,h2,h3,h4⟩
   · exact .inl ⟨h1,h2,by rw [List.eq_nil_of_length_eq_zero h1]; rfl⟩
   · exact .inr ⟨h1,h3,h4,by rw [fW,jV]⟩
 · have : (Ab.mk set.length ios (Ab.mk set.length iom H))[rb]? = some (some (Blk.row r.c)) := by
    unfold Ab.mk
    by_cases q : set.length = 0
    · rw [if_pos q,if_pos q]; exact hb
    · rw [if_neg q,if_neg q,qB (h1 q).1.symm,qB (h1 q).2.symm]; exact hb
   simp only [rdn,this]
   rfl
theorem kJ.base (a : kJ H0 H sv mv ios iom set l) : aG H0 (Ab.mk set.length ios (Ab.mk set.length iom H)) := by
 unfold Ab.mk
 by_cases q : set.length = 0
 · rw [if_pos q,if_pos q]; exact a.sub
 · rw [if_neg q,if_neg q]
   refine (a.sub.setR ?_).setR ?_
   · rcases a.m with h | h
     · exact absurd h.1 q
     · exact h.2.1
   · rcases a.s with h | h
     · exact absurd h.1 q
     · exact h.2.1
end
theorem lH.app {H L : aA} {bv : AV} {o : Option (List Nat)} (a : lH w0 H bv o) : lH w0 (H ++ L) bv o := a.sub aG.refl.app
theorem aCm {a b : List Int} : (vC a b ≥ 0) ↔ eT a b = false := by
 unfold vC
 by_cases q : a = b
 · subst q
   have := hJ a [] []
   rw [List.append_nil] at this
   rw [if_pos rfl,this]; simp [eT]
 · rw [if_neg q]
   cases eT a b <;> simp
set_option maxRecDepth 20000 in
set_option maxHeartbeats 4000000 in
theorem aCJ (w : bG) {v : AV} {l : List aD} (hv : Sl w0 h 3 v (l.map aD.c)) : ACall Tryz.prog w0 56 [v,.agg w.c] h fun y H => aG h H ∧ FewK w0 H y l w := by
 refine bI aV aDL mf56_b mf56_g (qE rfl) fun hb ha => bC ?_
 have hlen : jE v = some (.int .i64 l.length) := by have := hv.use.1; rwa [List.length_map] at this
 simp only [go_sem,mf56]
 refine aI (pF w hv.app).v ?_
 by_cases e : bM l w = 0
 · obtain ⟨hl8,hl,hw⟩ := gM e
   have s1 := aCs (n := l.length) (by omega)
   have hp : 2 ^ l.length ≤ 2 ^ 8 := Nat.pow_le_pow_right (by omega) hl8
   simp only [go_sem,e,hlen,s1]
   obtain ⟨X,hX⟩ : ∃ X,X = h ++ [some (Blk.row w.c)] := ⟨_,rfl⟩
   have hXs : aG h X := hX ▸ aG.refl.app
   have hXw : X[h.length]? = some (some (.row w.c)) := by rw [hX,qI (Nat.le_refl _),Nat.sub_self]; rfl
   refine eL (S := Nat × aA × AV × Option (List Nat)) (F := fun s => [(0,v),(3,.ptr (.own h.length 0)),(7,s.2.2.1),(8,.bool s.2.2.2.isSome),(24,.int .i64 ((2 ^ l.length : Nat) : Int)),(25,.int .i64 s.1)]) (H := fun s => s.2.1) (meas := fun s => 2 ^ l.length - s.1)
    (Inv := fun s => s.1 ≤ 2 ^ l.length ∧ aG X s.2.1 ∧ s.2.2.2 = mY l w s.1 ∧ lH w0 s.2.1 s.2.2.1 s.2.2.2) (0,X,.nilS,none) ⟨Nat.zero_le _,aG.refl,rfl,rfl⟩ rfl (by rw [hX]; rfl) ?_
   rintro ⟨b,H,bv,best⟩ ⟨hb1,hs,hbest,hbv⟩ ih
   simp only at hb1 hs hbest hbv ih ⊢
   refine bF aV aFx [0,3,7,8,24,25] L56_1.eq_1 ?_
   by_cases hbl : b < 2 ^ l.length
   · have e1 : (b : Int) < ((2 ^ l.length : Nat) : Int) := by omega
     simp only [go_sem,e1,hlen]
     have hb62 : b < 2 ^ 62 := by omega
     refine eL (S := Nat × aA × (AV × AV) × (Nat × Nat)) (F := fun s => [(0,v),(3,.ptr (.own h.length 0)),(7,bv),(8,.bool best.isSome),(9,.int .i64 b),(10,s.2.2.1.1),(11,s.2.2.1.2),(24,.int .i64 ((2 ^ l.length : Nat) : Int)),(25,.int .i64 b),(28,v),(29,.int .i64 l.length),(30,.int .i64 s.1)]) (H := fun s => s.2.1) (meas := fun s => l.length - s.1)
      (Inv := fun s => s.1 ≤ l.length ∧ kJ H s.2.1 s.2.2.1.1 s.2.2.1.2 s.2.2.2.1 s.2.2.2.2 (aL s.1 b) l) (0,H,(.nilS,.nilS),(0,0)) ⟨Nat.zero_le _,aG.refl,.inl ⟨rfl,rfl⟩,.inl ⟨rfl,rfl⟩,fun h => absurd rfl h⟩ rfl rfl ?_
     rintro ⟨i,H1,⟨sv,mv⟩,ios,iom⟩ ⟨hi,hI⟩ ih2
     simp only at hi hI ih2 ⊢
     have hbl8 : (aL i b).length ≤ 8 := by have := lS (jJ (n := i) (b := b)); omega
     refine bF aV aFy [0,3,7,8,9,10,11,24,25,28,29,30] L56_0.eq_1 ?_
     have hsh := hXs.trans (hs.trans hI.sub)
     by_cases hil : i < l.length
     · have e2 : (i : Int) < l.length := by omega
       obtain ⟨_,q,hix,hrow,_⟩ := hv.use
       rw [List.length_map] at hix
       have e3 := hix i hil
       have hr0 := hrow i _ (jS hil)
       have e4 : rdn w0 H1 (q.add (i * 3)) 3 = some l[i].c := hsh.rdn hr0
       obtain ⟨r,hr⟩ : ∃ r,r = l[i] := ⟨_,rfl⟩
       rw [← hr] at e4
       have s2 := aFs (a := b) (n := i) (by omega)
       have s3 := aCt (a := b / 2 ^ i) (by have := Nat.div_le_self b (2 ^ i); omega)
       rw [shr_bt] at s3
       have hbs := nE (n := i) (b := b)
       cases hbt : b.testBit i with
       | false =>
        rw [hbt,if_neg (by simp)] at s3
        rw [hbt] at hbs
        simp only [Bool.false_eq_true,if_false,List.append_nil] at hbs
        simp only [go_sem,e2,e3,e4,s2,s3]
        refine ⟨(by unfold I64; omega),ih2 (i + 1,_,(sv,mv),ios,iom) ⟨by simp only; omega,?_⟩ (by simp only; omega)⟩
        simp only
        rw [hbs]
        exact hI.app (L := [some (.row r.c)])
       | true =>
        rw [hbt,if_pos rfl] at s3
        rw [hbt,if_pos rfl] at hbs
        simp only [go_sem,e2,e3,e4,s2,s3]
        obtain ⟨G,hG⟩ : ∃ G,G = H1 ++ [some (Blk.row [AV.int IntKind.i64 r.x,AV.int IntKind.i64 r.y,AV.int IntKind.i64 r.s])] := ⟨_,rfl⟩
        have hIG : kJ H G sv mv ios iom (aL i b) l := hG ▸ hI.app
        have hgb : G[H1.length]? = some (some (.row r.c)) := by rw [hG,qI (Nat.le_refl _),Nat.sub_self]; rfl
        rw [← hG]
        have hne : (aL i b).length ≠ 0 → H1.length ≠ ios ∧ H1.length ≠ iom := fun n => by
         refine ⟨fun e => ?_,fun e => ?_⟩
         · rcases hI.s with h1 | h1
           · exact n h1.1
           · have := aM h1.2.2.2; omega
         · rcases hI.m with h1 | h1
           · exact n h1.1
           · have := aM h1.2.2.2; omega
        have go := hIG.go (w0 := w0) (i := i) hgb hne (by omega)
        refine aC6 (r := 0) go rfl rfl rfl rfl fun fr K a3 a7 kp f10 f11 ks ka kaa k3 k7 => ?_
        have f0 : fr.get 0 = v := kp 0 (by omega) (by omega) (by omega)
        have f3 : fr.get 3 = .ptr (.own h.length 0) := kp 3 (by omega) (by omega) (by omega)
        have f7 : fr.get 7 = bv := kp 7 (by omega) (by omega) (by omega)
        have f8 : fr.get 8 = .bool best.isSome := kp 8 (by omega) (by omega) (by omega)
        have f9 : fr.get 9 = .int .i64 b := kp 9 (by omega) (by omega) (by omega)
        have f24 : fr.get 24 = .int .i64 ((2 ^ l.length : Nat) : Int) := kp 24 (by omega) (by omega) (by omega)
        have f25 : fr.get 25 = .int .i64 b := kp 25 (by omega) (by omega) (by omega)
        have f28 : fr.get 28 = v := kp 28 (by omega) (by omega) (by omega)
        have f29 : fr.get 29 = .int .i64 l.length := kp 29 (by omega) (by omega) (by omega)
        have f30 : fr.get 30 = .int .i64 i := kp 30 (by omega) (by omega) (by omega)
        simp only at f10 f11 k3 k7 ka
        have hHG := hIG.sub.1
        simp only [go_sem,f0,f3,f7,f8,f9,f10,f11,f24,f25,f28,f29,f30]
        have hlen2 : (aL (i + 1) b).length = (aL i b).length + 1 := by rw [hbs]; simp
        have hS' : kJ H K (.sl (.own a3 0) ((aL i b).length + 1) 1 false) (.sl (.own a7 0) ((aL i b).length + 1) 3 false) a3 a7 (aL (i + 1) b) l := by
         refine ⟨hIG.base.trans ks,.inr ⟨by omega,by omega,by rw [hlen2],?_⟩,.inr ⟨by omega,by omega,by rw [hlen2],?_⟩,fun _ => by omega⟩
         · rw [k3,hbs,aCi]; simp [fD]
         · rw [k7,hbs,ofR,ofR,List.map_append,List.map_append,List.flatten_append]
           simp only [List.map_cons,List.map_nil,List.flatten_cons,List.flatten_nil,List.append_nil]
           rw [getD_at hil,← hr]
        exact ⟨(by unfold I64; omega),ih2 (i + 1,K,(_,_),a3,a7) ⟨by simp only; omega,hS'⟩ (by simp only; omega)⟩
     · have e2 : ¬ (i : Int) < l.length := by omega
       obtain rfl : i = l.length := by omega
       have hSI := hI.slI (w0 := w0)
       have hSM := hI.sl (w0 := w0)
       have hls := (SlI.use hSI).1
       rw [bT] at hls
       have hXH := (hs.trans hI.sub).2 _ _ hXw
       have hbv1 := hbv.sub hI.sub
       have hhold : ∀ {L : aA},bA Tryz.prog w0 80 [.agg w.c,mv] (H1 ++ L) (.tup (dN (bK (ofR l (aL l.length b)) w))) (H1 ++ L) := pT w hSM.app (pL (n := l.length) hl fun x hx => jJ.lt x hx) (by rw [jV]; omega) hw
       have hfs := xU (l := l) (w := w) (B := b)
       rw [← hbest] at hfs
       have next : ∀ (L : aA) (bv' : AV) (best' : Option (List Nat)),best' = mY l w (b + 1) → lH w0 (H1 ++ L) bv' best' → lp Tryz.prog w0 none 82 h.length _ _ _ [(0,v),(3,.ptr (.own h.length 0)),(7,bv'),(8,.bool best'.isSome),(24,.int .i64 ((2 ^ l.length : Nat) : Int)),(25,.int .i64 ((b + 1 : Nat) : Int))] (H1 ++ L) := fun L bv' best' e1 e2 =>
        ih (b + 1,H1 ++ L,bv',best') ⟨by simp only; omega,(hs.trans hI.sub).app,e1,e2⟩ (by simp only; omega)
       have hHd := fun (hx : (aL l.length b).length ≤ 8) => hx
       have tail1 : gB l w (aL l.length b) = (bK (ofR l (aL l.length b)) w).isNone := rfl
       match best,hbest,hbv1,hfs,next with
       | none,hbest,hbv1,hfs,next =>
        simp only [go_sem,e2,Option.isSome,hXH]
        have hh := hhold (L := [])
        rw [List.append_nil] at hh
        refine aI hh.v ?_
        rw [gC,tail1] at hfs
        cases hc : bK (ofR l (aL l.length b)) w with
        | some fd =>
         rw [hc] at hfs
         simp only [go_sem,dN]
         exact ⟨(by unfold I64; omega),next _ bv none hfs.symm hbv1.app⟩
        | none =>
         rw [hc] at hfs
         simp only [go_sem,dN]
         exact ⟨(by unfold I64; omega),next _ sv (some (aL l.length b)) hfs.symm (Sl.app hSI)⟩
       | some t,hbest,hbv1,hfs,next =>
        have hlt := (SlI.use hbv1).1
        rw [bT] at hlt
        rw [gC,tail1] at hfs
        have hh := hhold (L := [])
        rw [List.append_nil] at hh
        have next0 := next []
        rw [List.append_nil] at next0
        have hbvt : SlI w0 H1 bv (cst t) := hbv1
        by_cases q1 : ((aL l.length b).length : Int) > t.length
        · have hf : few (aL l.length b) t = false := by
           refine Bool.eq_false_iff.2 fun h => ?_
           rw [eS] at h
           omega
          rw [hf] at hfs
          simp only [Bool.false_eq_true,if_false] at hfs
          simp only [go_sem,e2,Option.isSome,hls,hlt,q1]
          exact ⟨(by unfold I64; omega),next0 bv (some t) hfs.symm hbv1⟩
        · by_cases q2 : ((aL l.length b).length : Int) = t.length
          · have q3 : ¬ (t.length : Int) > t.length := by omega
            have hcmp := aAd (w0 := w0) hSI hbvt (by rw [bT,bT]; omega) (by rw [bT]; omega)
            cases hbf : eT (cst (aL l.length b)) (cst t) with
            | false =>
             have hge := aCm.2 hbf
             have hf : few (aL l.length b) t = false := by
              refine Bool.eq_false_iff.2 fun h => ?_
              rw [eS,hbf] at h
              rcases h with h | h
              · omega
              · cases h.2
             rw [hf] at hfs
             simp only [Bool.false_eq_true,if_false] at hfs
             simp only [go_sem,e2,Option.isSome,hls,hlt,q1,q2,q3]
             refine aI hcmp.v ?_
             simp only [go_sem,hge]
             exact ⟨(by unfold I64; omega),next0 bv (some t) hfs.symm hbv1⟩
            | true =>
             have hge : ¬ vC (cst (aL l.length b)) (cst t) ≥ 0 := fun h => by rw [aCm.1 h] at hbf; cases hbf
             have hf : few (aL l.length b) t = true := eS.2 (.inr ⟨by omega,hbf⟩)
             rw [hf] at hfs
             simp only [if_true] at hfs
             simp only [go_sem,e2,Option.isSome,hls,hlt,q1,q2,q3]
             refine aI hcmp.v ?_
             simp only [go_sem,hge,hXH]
             refine aI hh.v ?_
             cases hc : bK (ofR l (aL l.length b)) w with
             | some fd =>
              rw [hc] at hfs
              simp only [go_sem,dN]
              exact ⟨(by unfold I64; omega),next _ bv (some t) hfs.symm hbv1.app⟩
             | none =>
              rw [hc] at hfs
              simp only [go_sem,dN]
              exact ⟨(by unfold I64; omega),next _ sv (some (aL l.length b)) hfs.symm (Sl.app hSI)⟩
          · have hf : few (aL l.length b) t = true := eS.2 (.inl (by omega))
            rw [hf] at hfs
            simp only [if_true] at hfs
            simp only [go_sem,e2,Option.isSome,hls,hlt,q1,q2,hXH]
            refine aI hh.v ?_
            cases hc : bK (ofR l (aL l.length b)) w with
            | some fd =>
             rw [hc] at hfs
             simp only [go_sem,dN]
             exact ⟨(by unfold I64; omega),next _ bv (some t) hfs.symm hbv1.app⟩
            | none =>
             rw [hc] at hfs
             simp only [go_sem,dN]
             exact ⟨(by unfold I64; omega),next _ sv (some (aL l.length b)) hfs.symm (Sl.app hSI)⟩
   · have e1 : ¬ (b : Int) < ((2 ^ l.length : Nat) : Int) := by omega
     obtain rfl : b = 2 ^ l.length := by omega
     have hf : best = fewD l w := hbest
     cases hbb : best with
     | none =>
      subst hbb
      simp only [go_sem,e1,Option.isSome]
      exact ⟨hXs.trans hs,by unfold FewK; rw [if_neg (by simpa using e),← hf]⟩
     | some s =>
      subst hbb
      simp only [go_sem,e1,Option.isSome]
      exact ⟨hXs.trans hs,by unfold FewK; rw [if_neg (by simpa using e),← hf]; exact ⟨bv,rfl,hbv⟩⟩
 · simp only [go_sem,e]
   exact ⟨aG.refl.app,by unfold FewK; rw [if_pos e]⟩
theorem aAX {v sv : AV} {l : List aD} {s : List Nat} (hv : Sl w0 h 3 v (l.map aD.c)) (hs : SlI w0 h sv (cst s)) (hlt : ∀ x ∈ s,x < l.length) (hn : s.length ≤ 1000) :
 ACall Tryz.prog w0 61 [v,sv] h fun y H => aG h H ∧ Sl w0 H 3 y ((ofR l s).map aD.c) := by
 refine bI aV aDJ mf61_b mf61_g (qE rfl) fun hb ha => bC ?_
 have hls := (SlI.use hs).1
 rw [bT] at hls
 obtain ⟨_,q,hix,hrow,_⟩ := hv.use
 rw [List.length_map] at hix
 simp only [go_sem,mf61]
 refine eL (S := Nat × aA × AV) (F := fun t => [(0,v),(1,sv),(5,t.2.2),(6,.int .i64 t.1)]) (H := fun t => t.2.1) (meas := fun t => s.length - t.1) (Inv := fun t => t.1 ≤ s.length ∧ Gro h t.2.1 3 t.1 t.2.2 ((ofR l (s.take t.1)).map aD.c).flatten) (0,h,.nilS) ⟨Nat.zero_le _,by simpa [ofR] using Gro.nil aG.refl⟩ rfl (by simp) ?_
 rintro ⟨j,H,ov⟩ ⟨hj,hG⟩ ih
 simp only at hj hG ih ⊢
 refine bF aV aFw [0,1,5,6] L61_0.eq_1 ?_
 by_cases hjl : j < s.length
 · have e1 : (j : Int) < s.length := by omega
   obtain ⟨p,i1,r1,r1'⟩ := SlI.at_ (Sl.sub hs hG.sub) (j := j) (by rw [bT]; exact hjl)
   have hcj : (cst s)[j]'(by rw [bT]; exact hjl) = (s[j] : Int) := by simp [cst]
   rw [hcj] at r1 r1'
   have hx := hlt _ (qG hjl)
   have e3 := hix s[j] hx
   have e4 := hG.sub.rdn (hrow s[j] _ (jS hx))
   simp only [go_sem,hls,e1,i1,r1,r1',e3,e4,pO]
   obtain ⟨Y,eY⟩ : ∃ Y,Y = H ++ [some (Blk.row [AV.int IntKind.i64 l[s[j]].x,AV.int IntKind.i64 l[s[j]].y,AV.int IntKind.i64 l[s[j]].s])] := ⟨_,rfl⟩
   have gY : Gro h Y 3 j ov ((ofR l (s.take j)).map aD.c).flatten := eY ▸ hG.app
   have hkk : Y[H.length]? = some (some (.row l[s[j]].c)) := by rw [eY,qI (Nat.le_refl _),Nat.sub_self]; rfl
   obtain ⟨G2,e5,e6⟩ := gY.more (w0 := w0) (b := 24) (f := true) hkk rfl rfl (by omega) (by omega)
   rw [← eY,e5]
   simp only [go_sem]
   refine ⟨(by unfold I64; omega),ih (j + 1,G2,_) ⟨by simp only; omega,?_⟩ (by simp only; omega)⟩
   simp only
   rw [List.take_succ_eq_append_getElem hjl,ofR,List.map_append,List.map_append,List.flatten_append,List.map_singleton,List.map_singleton,getD_at hx]
   simpa [ofR] using e6
 · have e1 : ¬ (j : Int) < s.length := by omega
   obtain rfl : j = s.length := by omega
   rw [List.take_length] at hG
   simp only [go_sem,hls,e1]
   exact ⟨hG.sub,hG.sl (fun c hc => by obtain ⟨r,_,rfl⟩ := List.mem_map.1 hc; rfl) (by rw [List.length_map,jV]) (by omega)⟩
theorem aA0 {es : Nat} {q : Pl} {rows : List (List AV)} (hq : ∀ (j : Nat) c,rows[j]? = some c → rdn w0 h (q.add (j * es)) es = some c) (hne : rows ≠ []) (k m : Nat) (hkm : k + m ≤ rows.length) : rdn w0 h (q.add (k * es)) (m * es) = some ((rows.drop k).take m).flatten := by
 by_cases hm : m = 0
 · subst hm
   rw [Nat.zero_mul,List.take_zero]
   cases q with
   | old a => simp [Pl.add,rdn]
   | own i o =>
    have hp := List.length_pos_iff.2 hne
    have h1 : ∃ j,j < rows.length ∧ (k = j ∨ k = j + 1) := by
     by_cases q : k < rows.length
     · exact ⟨k,q,.inl rfl⟩
     · exact ⟨k - 1,by omega,.inr (by omega)⟩
    obtain ⟨j,hj,hk⟩ := h1
    have h2 := hq j _ (qA hj)
    simp only [Pl.add,rdn] at h2 ⊢
    split at h2
    · rename_i c hc
      split at h2
      · rename_i hle
        rw [if_pos (by rcases hk with rfl | rfl <;> (try rw [Nat.succ_mul]) <;> omega)]
        simp
      · cases h2
    · cases h2
 · have := Sl.all (w0 := w0) (H := h) (es := es) (p := q.add (k * es)) (rows := (rows.drop k).take m) (by
    intro e
    have := congrArg List.length e
    rw [List.length_take,List.length_drop,List.length_nil] at this; omega) (fun j c hc => by
    have hj := aM hc
    rw [List.length_take,List.length_drop] at hj
    rw [List.getElem?_take_of_lt (by omega),List.getElem?_drop] at hc
    have := hq (k + j) c hc
    rw [Nat.add_mul] at this
    rwa [Pl.add_add])
   rwa [List.length_take,List.length_drop,show min m (rows.length - k) = m by omega] at this
theorem uC {v : AV} {l : List aD} {i : Nat} (hv : Sl w0 h 3 v (l.map aD.c)) (hi : i < l.length) (hn : l.length ≤ 1000) :
 ACall Tryz.prog w0 62 [v,.int .i64 i] h fun y H => aG h H ∧ Sl w0 H 3 y ((l.eraseIdx i).map aD.c) := by
 refine bI aV aDI mf62_b mf62_g (qE rfl) fun hb ha => bC ?_
 have hne : l.map aD.c ≠ [] := by intro e; have := congrArg List.length e; simp at this; subst this; simp at hi
 rcases hv with ⟨_,h2⟩ | ⟨q,f,⟨es',h1,h4⟩,h2,h3⟩
 · exact absurd h2 hne
 rw [List.length_map] at h1
 subst h1
 have hones : ∀ k m,((((l.map aD.c).drop k).take m).flatten).all one = true := fun k m => by
  rw [List.all_eq_true]
  intro x hx
  obtain ⟨c,hc,hx⟩ := List.mem_flatten.1 hx
  have := List.mem_of_mem_drop (List.mem_of_mem_take hc)
  obtain ⟨r,_,rfl⟩ := List.mem_map.1 this
  simp [aD.c] at hx
  rcases hx with rfl | rfl | rfl <;> rfl
 have hesq : ∀ k,fV (q.add k) 3 es' = true := fun k => by cases q <;> exact h4
 have src : ∀ (L : aA) (k m : Nat) (b : Bool),k + m ≤ l.length → fA w0 (h ++ L) 3 (.sl (q.add (k * 3)) m es' b) = some (m,(((l.map aD.c).drop k).take m).flatten) := fun L k m b hkm => by
  simp only [fA,hesq,if_true]
  rw [dJ (aA0 (w0 := w0) (h := h) h3 hne k m (by rw [List.length_map]; exact hkm))]; rfl
 have b1 : i ≤ l.length := by omega
 have b2 : i + 1 ≤ l.length := by omega
 have herase : (l.eraseIdx i).map aD.c = (((l.map aD.c).drop 0).take i) ++ (((l.map aD.c).drop (i + 1)).take (l.length - (i + 1))) := by
  rw [List.eraseIdx_eq_take_drop_succ,List.map_append,List.drop_zero,List.map_take,List.map_drop,List.take_of_length_le (l := (l.map aD.c).drop (i + 1)) (by rw [List.length_drop,List.length_map]; omega)]
 have hix : ∀ x ∈ (l.eraseIdx i).map aD.c,x.length = 3 := fun x hx => by obtain ⟨r,_,rfl⟩ := List.mem_map.1 hx; rfl
 have hlen : ∀ k m,k + m ≤ l.length → ((((l.map aD.c).drop k).take m).flatten).length = m * 3 := fun k m hkm => by
  rw [← List.map_drop,← List.map_take,fW,List.length_take,List.length_drop]; congr 1; omega
 simp only [go_sem,mf62]
 obtain ⟨z1,hz1⟩ : ∃ z1,z1 = AV.sl (q.add (0 * 3)) (i - 0) es' (cQ none i (f && i == l.length)) := ⟨_,rfl⟩
 obtain ⟨z2,hz2⟩ : ∃ z2,z2 = AV.sl (q.add ((i + 1) * 3)) (l.length - (i + 1)) es' (cQ none l.length (f && l.length == l.length)) := ⟨_,rfl⟩
 have sl1 : ∀ fr : Fr,fr.get 6 = .int .i64 i → rK 3 fr (.sl q l.length es' f) none (some (.t 6)) none = some z1 := fun fr hf => by
  simp only [rK,show fV q 3 es' = true from h4,if_true,aCr,Opd.ev,hf,bQ,pO,bdK_2]
  rw [if_pos ⟨Nat.zero_le _,b1⟩,hz1]; rfl
 have sl2 : ∀ fr : Fr,fr.get 11 = .int .i64 ((i : Int) + 1) → rK 3 fr (.sl q l.length es' f) (some (.t 11)) none none = some z2 := fun fr hf => by
  have e1 : (if (0 : Int) ≤ (i : Int) + 1 then some ((i : Int) + 1).toNat else none) = some (i + 1) := by rw [if_pos (by omega)]; congr 1
  simp only [rK,show fV q 3 es' = true from h4,if_true,aCq,Opd.ev,hf,bQ,e1,bdK_2]
  rw [if_pos ⟨b2,Nat.le_refl _⟩,hz2]; rfl
 obtain ⟨A,hA⟩ : ∃ A,A = (((l.map aD.c).drop 0).take i).flatten := ⟨_,rfl⟩
 obtain ⟨B,hB⟩ : ∃ B,B = (((l.map aD.c).drop (i + 1)).take (l.length - (i + 1))).flatten := ⟨_,rfl⟩
 have hAl : A.length = i * 3 := hA ▸ hlen 0 i (by omega)
 have hBl : B.length = (l.length - (i + 1)) * 3 := hB ▸ hlen (i + 1) _ (by omega)
 have hAo : A.all one = true := hA ▸ hones _ _
 have hBo : B.all one = true := hB ▸ hones _ _
 have hAB : ((l.eraseIdx i).map aD.c).flatten = A ++ B := by rw [herase,List.flatten_append,hA,hB]
 have hel : (l.eraseIdx i).length = l.length - 1 := by rw [List.length_eraseIdx,if_pos hi]
 have e1 : ∃ y1 L1,cT w0 (h ++ []) 3 24 .nilS z1 = some (y1,h ++ L1) ∧ ((i = 0 ∧ y1 = .nilS ∧ L1 = []) ∨ (i ≠ 0 ∧ y1 = .sl (.own h.length 0) i 3 false ∧ L1 = [some (.row A)])) := by
  by_cases h0 : i = 0
  · refine ⟨.nilS,[],?_,.inl ⟨h0,rfl,rfl⟩⟩
    rw [hz1]
    simp only [cT,src [] 0 (i - 0) _ (by omega),Option.bind_some]
    rw [if_pos (by omega)]
  · refine ⟨_,_,?_,.inr ⟨h0,rfl,rfl⟩⟩
    rw [hz1]
    simp only [cT,src [] 0 (i - 0) _ (by omega),Option.bind_some]
    rw [if_neg (by omega),if_pos ⟨by omega,hones _ _⟩,Nat.sub_zero,← hA]
    simp [eK]
 obtain ⟨y1,L1,e1,hy1⟩ := e1
 have sly : ∀ (H : aA) (b : Nat),H[b]? = some (some (.row (A ++ B))) → Sl w0 H 3 (.sl (.own b 0) (l.length - 1) 3 false) ((l.eraseIdx i).map aD.c) := fun H b hb => oY (k := []) (by rw [List.append_nil,hAB]; exact hb) hel.symm
 have e2 : ∃ y2 H2,cT w0 (h ++ L1) 3 24 y1 z2 = some (y2,H2) ∧ aG h H2 ∧ Sl w0 H2 3 y2 ((l.eraseIdx i).map aD.c) := by
  have hs2 := src L1 (i + 1) (l.length - (i + 1)) (cQ none l.length (f && l.length == l.length)) (by omega)
  rw [← hz2] at hs2
  by_cases hm : l.length - (i + 1) = 0
  · have hB0 : B = [] := List.eq_nil_of_length_eq_zero (by rw [hBl,hm])
    rcases hy1 with ⟨h0,rfl,rfl⟩ | ⟨h0,rfl,rfl⟩
    · refine ⟨.nilS,h ++ [],?_,aG.refl.app,.inl ⟨rfl,?_⟩⟩
      · simp only [cT,hs2,Option.bind_some]; rw [if_pos hm]
      · have : (l.eraseIdx i).length = 0 := by omega
        rw [List.eq_nil_of_length_eq_zero this]; rfl
    · refine ⟨.sl (.own h.length 0) i 3 false,h ++ [some (.row A)],?_,aG.refl.app,?_⟩
      · simp only [cT,hs2,Option.bind_some]; rw [if_pos hm]
      · have := sly (h ++ [some (.row A)]) h.length (by rw [qI (Nat.le_refl _),Nat.sub_self,hB0,List.append_nil]; rfl)
        rwa [show l.length - 1 = i by omega] at this
  · rcases hy1 with ⟨h0,rfl,rfl⟩ | ⟨h0,rfl,rfl⟩
    · have hA0 : A = [] := List.eq_nil_of_length_eq_zero (by rw [hAl,h0])
      refine ⟨.sl (.own (h ++ []).length 0) (l.length - (i + 1)) 3 false,(h ++ []) ++ [some (Blk.row B)],?_,?_,?_⟩
      · simp only [cT,hs2,Option.bind_some]
        rw [if_neg hm,if_pos ⟨by omega,hones _ _⟩,← hB]
        rfl
      · exact (aG.refl.app).app
      · have := sly ((h ++ []) ++ [some (Blk.row B)]) (h ++ []).length (by rw [qI (Nat.le_refl _),Nat.sub_self,hA0]; rfl)
        rwa [show l.length - 1 = l.length - (i + 1) by omega] at this
    · have r1 : rdn w0 (h ++ [some (Blk.row A)]) (.own h.length 0) (i * 3) = some A := by
       simp only [rdn]
       rw [qI (Nat.le_refl _),Nat.sub_self]
       simp [hAl,List.take_of_length_le (Nat.le_of_eq hAl)]
      refine ⟨.sl (.own (h ++ [some (Blk.row A)]).length 0) (i + (l.length - (i + 1))) 3 false,((h ++ [some (Blk.row A)]).set h.length none) ++ [some (Blk.row (A ++ B))],?_,?_,?_⟩
      · simp only [cT,hs2,Option.bind_some,fE]
        rw [if_neg hm,if_pos ⟨trivial,by omega,hones _ _⟩]
        simp only [Bool.false_eq_true,if_false,r1,Option.bind_some,← hB]
      · exact ((aG.refl.app).setR (Nat.le_refl _)).app
      · have := sly (((h ++ [some (Blk.row A)]).set h.length none) ++ [some (Blk.row (A ++ B))]) (h ++ [some (Blk.row A)]).length (by rw [qI (by simp)]; simp)
        rwa [show l.length - 1 = i + (l.length - (i + 1)) by omega] at this
 obtain ⟨y2,H2,e2,e3,e4⟩ := e2
 rw [sl1 _ rfl]
 simp only [go_sem,e1]
 refine ⟨(by unfold I64; omega),?_⟩
 rw [sl2 _ rfl]
 simp only [go_sem,e2]
 exact ⟨e3,e4⟩
theorem SlI.getD_at2 {x : AV} {l : List Int} (a : SlI w0 h x l) {j : Nat} (hj : j < l.length) : ∃ p : Pl,fL 1 x (some j) = some (.ptr p) ∧ (∀ L,rd w0 (h ++ L) p = some (.int .i64 (l.getD j 0))) ∧ rd w0 h p = some (.int .i64 (l.getD j 0)) := by
 obtain ⟨p,a1,a2,a3⟩ := a.at_ hj
 rw [Ab.getD_at hj]; exact ⟨p,a1,a2,a3⟩
def nM (n : Nat) (l : List Int) : Bool := (List.range l.length).all fun i => decide (0 ≤ l.getD i 0 ∧ l.getD i 0 < n ∧ (i = 0 ∨ l.getD (i - 1) 0 < l.getD i 0))
theorem zN {n : Nat} {l : List Int} (h : nM n l = true) : ∃ s,l = cst s ∧ Inc n s := by
 rw [nM,List.all_eq_true] at h
 have h : ∀ i,i < l.length → 0 ≤ l.getD i 0 ∧ l.getD i 0 < n ∧ (i = 0 ∨ l.getD (i - 1) 0 < l.getD i 0) := fun i hi => of_decide_eq_true (h i (List.mem_range.2 hi))
 have inc : ∀ d i,i + d + 1 < l.length → l.getD i 0 < l.getD (i + d + 1) 0 := by
  intro d
  induction d with
  | zero =>
   intro i hi
   have := (h (i + 1) hi).2.2
   simpa using this
  | succ d ih =>
   intro i hi
   have h1 := ih i (by omega)
   have h2 := (h (i + d + 1 + 1) (by omega)).2.2
   rw [Nat.add_sub_cancel] at h2
   have e : i + (d + 1) + 1 = i + d + 1 + 1 := by omega
   rw [e]
   omega
 refine ⟨l.map Int.toNat,?_,?_,fun x hx => ?_⟩
 · rw [cst,List.map_map]
   refine (List.map_id l).symm.trans (List.map_congr_left fun x hx => ?_)
   obtain ⟨i,hi,rfl⟩ := List.getElem_of_mem hx
   have := (h i hi).1
   rw [getD_at hi] at this
   simp only [id,Function.comp_apply]; omega
 · rw [List.pairwise_map,List.pairwise_iff_getElem]
   intro i j hi hj hij
   have := inc (j - i - 1) i (by omega)
   rw [show i + (j - i - 1) + 1 = j by omega,getD_at hi,getD_at hj] at this
   have h1 := (h i hi).1
   rw [getD_at hi] at h1
   omega
 · obtain ⟨y,hy,rfl⟩ := List.mem_map.1 hx
   obtain ⟨i,hi,rfl⟩ := List.getElem_of_mem hy
   have := h i hi
   rw [getD_at hi] at this
   omega
theorem aFj {n : Nat} {s : List Nat} (h : Inc n s) : nM n (cst s) = true := by
 rw [nM,List.all_eq_true]
 intro i hi
 have hi := List.mem_range.1 hi
 rw [bT] at hi
 have g : ∀ j (hj : j < s.length),(cst s).getD j 0 = (s[j] : Int) := fun j hj => by rw [getD_at (by rw [bT]; exact hj)]; simp [cst]
 rw [decide_eq_true_eq,g i hi]
 have := h.lt _ (qG hi)
 refine ⟨by omega,by omega,?_⟩
 by_cases q : i = 0
 · exact .inl q
 · right
   rw [g (i - 1) (by omega)]
   have := List.pairwise_iff_getElem.1 h.so (i - 1) i (by omega) hi (by omega)
   omega
theorem kB {sv : AV} {l : List Int} (n : Nat) (hs : SlI w0 h sv l) (hn : l.length ≤ 1000000) : bA Tryz.prog w0 60 [sv,.int .i64 n] h (.bool (nM n l)) h := by
 refine aT aV aDK mf60_b mf60_g (qE rfl) (by simp [AV.bdd,AV.bdds]) fun hb ha => bC ?_
 have hls := (SlI.use hs).1
 simp only [go_sem,mf60]
 refine mQ (fun i => [(0,sv),(1,.int .i64 n),(5,.int .i64 i)]) (fun i => 0 ≤ l.getD i 0 ∧ l.getD i 0 < n ∧ (i = 0 ∨ l.getD (i - 1) 0 < l.getD i 0)) l.length rfl (fun i hi hall ih => ?_) (fun hall => ?_)
 · refine bF aV yF [0,1,5] L60_0.eq_1 ?_
   have e1 : (i : Int) < l.length := by omega
   obtain ⟨p,i1,r1,r1'⟩ := hs.getD_at2 hi
   obtain ⟨x,hx⟩ : ∃ x,x = l.getD i 0 := ⟨_,rfl⟩
   rw [← hx] at r1 r1' ih
   have no : ¬ (0 ≤ x ∧ x < n ∧ (i = 0 ∨ l.getD (i - 1) 0 < x)) → nM n l = false := fun e => by
    rw [nM,List.all_eq_false]
    exact ⟨i,List.mem_range.2 hi,by rw [← hx,decide_eq_false e]; simp⟩
   by_cases c1 : x < 0
   · simp only [go_sem,hls,e1,i1,r1,r1',c1]
     rw [no (by omega)]
   · by_cases c2 : x ≥ (n : Int)
     · simp only [go_sem,hls,e1,i1,r1,r1',c1,c2]
       rw [no (by omega)]
     · by_cases c3 : (i : Int) > 0
       · obtain ⟨p2,i2,r2,r2'⟩ := hs.getD_at2 (j := i - 1) (by omega)
         have w1 : wi ((i : Int) - 1) = ((i - 1 : Nat) : Int) := (vT (by unfold I64; omega)).trans (by omega)
         obtain ⟨y,hy⟩ : ∃ y,y = l.getD (i - 1) 0 := ⟨_,rfl⟩
         rw [← hy] at r2 r2' ih no
         by_cases c4 : x ≤ y
         · simp only [go_sem,hls,e1,i1,r1,r1',c1,c2,c3,w1,pO,i2,r2,r2',c4]
           rw [no (by omega)]
         · simp only [go_sem,hls,e1,i1,r1,r1',c1,c2,c3,w1,pO,i2,r2,r2',c4]
           exact ⟨(by unfold I64; omega),ih (by omega)⟩
       · simp only [go_sem,hls,e1,i1,r1,r1',c1,c2,c3]
         exact ⟨(by unfold I64; omega),ih (by omega)⟩
 · refine bF aV yF [0,1,5] L60_0.eq_1 ?_
   have e1 : ¬ (l.length : Int) < l.length := by omega
   simp only [go_sem,hls,e1]
   rw [show nM n l = true by rw [nM,List.all_eq_true]; exact fun i hi => decide_eq_true (hall i (List.mem_range.1 hi))]
theorem aDh {l : List aD} {s : List Nat} (h : Inc l.length s) : (ofR l s).Sublist l := by
 obtain ⟨b,_,rfl⟩ := gT h
 have e : ((List.range l.length).map fun i => l.getD i ⟨0,0,0⟩) = l := by
  refine List.ext_getElem (by simp) fun i h1 h2 => ?_
  rw [List.getElem_map,List.getElem_range,getD_at h2]
 have := (List.filter_sublist (p := fun i => b.testBit i) (l := List.range l.length)).map fun i => l.getD i ⟨0,0,0⟩
 rw [e] at this
 exact this
theorem aA4 (d : Int × Int) {a b : List aD} (h : a.Sublist b) : b.all aX = true → bN a d ≤ bN b d := by
 induction h with
 | slnil => intro _; simp [bN]
 | cons r _ ih =>
  intro hb
  rw [List.all_cons,Bool.and_eq_true] at hb
  have h1 := ih hb.2
  have h2 := hb.1
  simp only [aX,inB,Bool.and_eq_true,decide_eq_true_eq] at h2
  have : 0 ≤ r.s * max 0 (cC d (bR r)) := Int.mul_nonneg (by omega) (by omega)
  simp only [bN]; omega
 | cons_cons r _ ih =>
  intro hb
  rw [List.all_cons,Bool.and_eq_true] at hb
  have h1 := ih hb.2
  simp only [bN]; omega
theorem aCa {l : List aD} {w : bG} {s : List Nat} (hl : l.all aX = true) (hs : Inc l.length s) (h : bK (ofR l s) w = none) : bK l w = none := by
 rw [uW] at h ⊢
 intro f hf d _
 have h1 := aA5 (pL (n := l.length) hl hs.lt) (fun d' hd' => h f hf d' hd') d
 have h2 := aA4 d (aDh hs) hl
 omega
theorem mN {l : List aD} {w : bG} {s : List Nat} (e : bM l w = 0) (hs : Inc l.length s) : bM (ofR l s) w = 0 := by
 obtain ⟨h1,h2,h3⟩ := gM e
 exact rO (by rw [jV]; have := lS hs; omega) (pL (n := l.length) h2 hs.lt) h3
theorem sU {l : List aD} {w : bG} {i : Nat} (e : bM l w = 0) : bM (l.eraseIdx i) w = 0 := by
 obtain ⟨h1,h2,h3⟩ := gM e
 exact rO (by have := List.length_eraseIdx_le l i; omega) (oI h2 i) h3
theorem zR (o : Option ((Int × Int) × (Int × Int))) : ∃ a b c d : Int,dN o = [.bool o.isNone,.agg [.int .i64 a,.int .i64 b,.int .i64 c,.int .i64 d]] := by
 cases o with
 | none => exact ⟨_,_,_,_,rfl⟩
 | some x => exact ⟨_,_,_,_,rfl⟩
theorem lV {v : AV} {l : List aD} {w : bG} (e : bM l w = 0) (hv : Sl w0 h 3 v (l.map aD.c)) : ∃ a b c d : Int,bA Tryz.prog w0 28 [v,.agg w.c] h (.tup [.bool (bK l w).isNone,.agg [.int .i64 a,.int .i64 b,.int .i64 c,.int .i64 d],.int .i64 0]) h := by
 obtain ⟨a,b,c,d,h1⟩ := zR (bK l w)
 have := Hold_c w hv
 rw [oR,if_pos e,h1] at this
 exact ⟨a,b,c,d,this⟩
theorem kO (l : List aD) (w : bG) : (dY l w = -1 ∧ ∀ i,i < l.length → (bK (l.eraseIdx i) w).isNone = true) ∨ ∃ k : Nat,k < l.length ∧ dY l w = k ∧ (bK (l.eraseIdx k) w).isNone = false := by
 cases h : iY l w with
 | none =>
  refine .inl ⟨by rw [dY,h],fun i hi => ?_⟩
  rw [iY,List.find?_eq_none] at h
  have := h i (List.mem_range.2 hi)
  cases q : bK (l.eraseIdx i) w with
  | none => rfl
  | some x => rw [q] at this; exact absurd rfl this
 | some k =>
  have h1 := List.mem_range.1 (List.mem_of_find?_eq_some h)
  have h2 := List.find?_some h
  refine .inr ⟨k,h1,by rw [dY,h],?_⟩
  cases q : bK (l.eraseIdx k) w with
  | none => rw [q] at h2; cases h2
  | some x => rfl
set_option maxRecDepth 20000 in
set_option maxHeartbeats 4000000 in
theorem qY {v ov : AV} {l : List aD} {o : List Int} (w : bG) (i : Int) (hv : Sl w0 h 3 v (l.map aD.c)) (ho : SlI w0 h ov o) :
 bA Tryz.prog w0 15 [v,.agg w.c,ov,.int .i64 i] h (.bool true) h := by
 refine dT trivial (bI aV aDY mf15_b mf15_g (qE rfl) fun hb ha => bC ?_)
 have hlen : jE v = some (.int .i64 l.length) := by have := hv.use.1; rwa [List.length_map] at this
 have hlo := (SlI.use ho).1
 simp only [go_sem,mf15]
 refine aI (aBW w hv.app).v ?_
 by_cases e : bM l w = 0
 rotate_left
 · simp only [go_sem,e]
   refine aI eP.v ?_
   simp only [go_sem]
   exact aG.refl.app
 obtain ⟨hl8,hl,hw⟩ := gM e
 by_cases c1 : (o.length : Int) > 8
 · simp only [go_sem,e,hlo,c1]
   refine aI eP.v ?_
   simp only [go_sem]
   exact aG.refl.app
 simp only [go_sem,e,hlo,c1,hlen]
 refine aI (kB l.length ho.app (by omega)).v ?_
 cases c2 : nM l.length o with
 | false =>
  simp only [go_sem]
  refine aI eP.v ?_
  simp only [go_sem]
  exact aG.refl.app
 | true =>
 obtain ⟨s,rfl,hs⟩ := zN c2
 rw [bT] at hlo
 have hsl := lS hs
 simp only [go_sem]
 obtain ⟨X,hX⟩ : ∃ X,X = h ++ [some (Blk.row [AV.int IntKind.i64 w.xl,AV.int IntKind.i64 w.xh,AV.int IntKind.i64 w.yl,AV.int IntKind.i64 w.yh])] := ⟨_,rfl⟩
 have hXs : aG h X := hX ▸ aG.refl.app
 have hXw : X[h.length]? = some (some (.row w.c)) := by rw [hX,qI (Nat.le_refl _),Nat.sub_self]; rfl
 rw [← hX]
 refine aZ (ACall.vc (first := []) (aCJ w (hv.sub hXs))) ?_
 rintro y H ⟨hs1,hK⟩
 have hHw := hs1.2 _ _ hXw
 have hhH := hXs.trans hs1
 have hb := zW (l := l) (w := w)
 have hvH := hv.sub hhH
 have hoH := Sl.sub ho hhH
 rw [FewK,if_neg (by simpa using e)] at hK
 cases hf : fewD l w with
 | none =>
  rw [hf] at hK hb
  simp only at hK
  subst hK
  have hh0 := hb s hs
  simp only [go_sem]
  refine nB aV [0,1,3,2,4,5,6,7,8,9,10,11,12] [o_ 46 (m_ 0),o_ 47 (m_ 2),o_ 49 (.load (.t 5) (some 4)),.call (some 48) none (f_ 61) [(.t 46),(.t 47)]] [([(2,o_ 49 (.load (.t 5) (some 4)))],[.call (some 50) none (f_ 28) [(.t 48),(.t 49)],o_ 45 (m_ 50),o_ 51 (.ext (.t 45) 0),o_ 52 (.ext (.t 45) 1),o_ 53 (.ext (.t 45) 2),o_ 12 (.alloc [(.int .i64 0),(.int .i64 0),(.int .i64 0),(.int .i64 0)]),o_ 11 (m_ 51),.op none none (.store (.t 12) (.t 52) 4),o_ 13 (m_ 53)])] rfl rfl (by kernel_rfl) ?_
  simp only [go_sem,hHw]
  refine aZ (ACall.vc (first := []) (args := [v,ov]) (aAX hvH hoH hs.lt (by omega))) ?_
  rintro y1 K ⟨hs2,hy1⟩
  have hKw := hs2.2 _ _ hHw
  simp only [go_sem,hKw]
  obtain ⟨f1,f2,f3,f4,hh⟩ := lV (mN e hs) hy1
  rw [show (bK (ofR l s) w).isNone = false from hh0] at hh
  refine aI hh.v ?_
  simp only [go_sem]
  refine aI eP.v ?_
  simp only [go_sem]
  exact (hhH.trans hs2).app
 | some t =>
  rw [hf] at hK hb
  simp only at hK
  obtain ⟨sv,rfl,hsv⟩ := hK
  obtain ⟨hti,hth,htm⟩ := hb
  have htl := lS hti
  have hlt := (SlI.use hsv).1
  rw [bT] at hlt
  simp only [go_sem]
  refine nB aV [0,1,3,2,4,5,6,7,8,9,10,11,12] [o_ 46 (m_ 0),o_ 47 (m_ 2),o_ 49 (.load (.t 5) (some 4)),.call (some 48) none (f_ 61) [(.t 46),(.t 47)]] [([(2,o_ 49 (.load (.t 5) (some 4)))],[.call (some 50) none (f_ 28) [(.t 48),(.t 49)],o_ 45 (m_ 50),o_ 51 (.ext (.t 45) 0),o_ 52 (.ext (.t 45) 1),o_ 53 (.ext (.t 45) 2),o_ 12 (.alloc [(.int .i64 0),(.int .i64 0),(.int .i64 0),(.int .i64 0)]),o_ 11 (m_ 51),.op none none (.store (.t 12) (.t 52) 4),o_ 13 (m_ 53)])] rfl rfl (by kernel_rfl) ?_
  simp only [go_sem,hHw]
  refine aZ (ACall.vc (first := []) (args := [v,ov]) (aAX hvH hoH hs.lt (by omega))) ?_
  rintro y1 K ⟨hs2,hy1⟩
  have hKw := hs2.2 _ _ hHw
  simp only [go_sem,hKw]
  obtain ⟨f1,f2,f3,f4,hh⟩ := lV (mN e hs) hy1
  refine aI hh.v ?_
  simp only [go_sem]
  have e1 : ¬ (t.length : Int) > l.length := by omega
  have e2 := aFj hti
  obtain ⟨U,hU⟩ : ∃ U,U = K ++ [some (Blk.row [AV.int IntKind.i64 f1,AV.int IntKind.i64 f2,AV.int IntKind.i64 f3,AV.int IntKind.i64 f4])] := ⟨_,rfl⟩
  have hHU : aG H U := hU ▸ hs2.app
  have hhU := hhH.trans hHU
  have hsvU : SlI w0 U sv (cst t) := Sl.sub hsv hHU
  have hUw := hHU.2 _ _ hHw
  have hi := (kB l.length hsvU (by rw [bT]; omega)).v
  rw [e2] at hi
  rw [← hU]
  simp only [go_sem,hlt,hlen,e1]
  refine aI hi ?_
  have hV : gF l w = [.int .i64 (dY l w),.int .i64 0] := by unfold gF; rw [if_neg (by simpa using e),aCa hl hti (by simpa [gB] using hth)]; rfl
  have hSp := fun (G : aA) (hG : aG h G) => aFu w (hv.sub hG)
  rw [hV] at hSp
  have fewF : (bK (ofR l s) w).isNone = true → few s t = false := fun q => htm s hs q
  have c3 : (bK (ofR l s) w).isNone = false ∨ ((bK (ofR l s) w).isNone = true ∧ ¬ (s.length : Int) = t.length) ∨ ((bK (ofR l s) w).isNone = true ∧ (s.length : Int) = t.length) := by
   cases (bK (ofR l s) w).isNone with
   | false => exact .inl rfl
   | true =>
    by_cases q : (s.length : Int) = t.length
    · exact .inr (.inr ⟨rfl,q⟩)
    · exact .inr (.inl ⟨rfl,q⟩)
  have lt' : (bK (ofR l s) w).isNone = true → ¬ (s.length : Int) < t.length := fun q h => by
   have := fewF q
   rw [Bool.eq_false_iff,ne_eq,eS] at this
   exact this (.inl (by omega))
  have bf' : (bK (ofR l s) w).isNone = true → (s.length : Int) = t.length → eT (cst s) (cst t) = false := fun q h => by
   have := fewF q
   rw [Bool.eq_false_iff,ne_eq,eS] at this
   exact Bool.eq_false_iff.2 fun h2 => this (.inr ⟨by omega,h2⟩)
  have hoU : SlI w0 U ov (cst s) := Sl.sub hoH hHU
  rcases c3 with c3 | ⟨c3,c4⟩ | ⟨c3,c4⟩
  case' inl => simp only [go_sem,c3]
  case' inr.inl =>
   have c5 := lt' c3
   simp only [go_sem,c3,hlt,hlo,c4,c5]
  case' inr.inr =>
   have c5 := lt' c3
   have c6 := (zA hoU hsvU (by rw [bT]; omega)).v
   rw [bf' c3 c4] at c6
   have c7 : ¬ (t.length : Int) < t.length := by omega
   simp only [go_sem,c3,hlt,hlo,c4,c7]
   refine aI c6 ?_
   simp only [go_sem]
  all_goals
   refine nB aV [0,1,3,2,4,5,6,7,8,9,10,11,12] [o_ 102 (m_ 0),o_ 103 (m_ 9),o_ 105 (.load (.t 5) (some 4)),.call (some 104) none (f_ 61) [(.t 102),(.t 103)]] [([(2,o_ 105 (.load (.t 5) (some 4)))],[.call (some 106) none (f_ 28) [(.t 104),(.t 105)],o_ 101 (m_ 106),o_ 107 (.ext (.t 101) 0),o_ 108 (.ext (.t 101) 1),o_ 109 (.ext (.t 101) 2),o_ 15 (.alloc [(.int .i64 0),(.int .i64 0),(.int .i64 0),(.int .i64 0)]),o_ 14 (m_ 107),.op none none (.store (.t 15) (.t 108) 4),o_ 16 (m_ 109)])] rfl rfl (by kernel_rfl) ?_
   simp only [go_sem,hUw]
   refine aZ (ACall.vc (first := []) (args := [v,sv]) (aAX (hv.sub hhU) hsvU hti.lt (by omega))) ?_
   rintro y2 K2 ⟨hs3,hy2⟩
   have hKw2 := hs3.2 _ _ hUw
   have hhK2 := hhU.trans hs3
   simp only [go_sem,hKw2]
   obtain ⟨f5,f6,f7,f8,hh2⟩ := lV (mN e hti) hy2
   rw [show (bK (ofR l t) w).isNone = true from hth] at hh2
   refine aI hh2.v ?_
   simp only [go_sem]
   obtain ⟨Y,hY⟩ : ∃ Y,Y = K2 ++ [some (Blk.row [AV.int IntKind.i64 f5,AV.int IntKind.i64 f6,AV.int IntKind.i64 f7,AV.int IntKind.i64 f8])] := ⟨_,rfl⟩
   have hKY : aG K2 Y := hY ▸ aG.refl.app
   have hhY := hhK2.trans hKY
   have hYw := hKY.2 _ _ hKw2
   rw [← hY]
   simp only [go_sem,hYw]
   refine aI (hSp Y hhY).v ?_
   have b1 : ¬ dY l w < -1 := by rcases kO l w with h | ⟨k,h1,h2,_⟩ <;> omega
   have b2 : ¬ dY l w ≥ (l.length : Int) := by rcases kO l w with h | ⟨k,h1,h2,_⟩ <;> omega
   simp only [go_sem,b1,b2,hlen]
   by_cases d1 : i < 0
   · simp only [go_sem,d1]
     refine aI eP.v ?_
     simp only [go_sem]
     exact hhY
   by_cases d2 : i ≥ (l.length : Int)
   · simp only [go_sem,d1,d2,hlen]
     refine aI eP.v ?_
     simp only [go_sem]
     exact hhY
   simp only [go_sem,d1,d2,hlen]
   obtain ⟨j,rfl⟩ : ∃ j : Nat,i = j := ⟨i.toNat,by omega⟩
   refine nB aV [0,1,3,2,4,5,6,7,8,9,10,11,12] [o_ 144 (m_ 0),o_ 145 (m_ 3),o_ 147 (.load (.t 5) (some 4)),.call (some 146) none (f_ 62) [(.t 144),(.t 145)]] [([(2,o_ 147 (.load (.t 5) (some 4)))],[.call (some 148) none (f_ 28) [(.t 146),(.t 147)],o_ 143 (m_ 148),o_ 149 (.ext (.t 143) 0),o_ 150 (.ext (.t 143) 1),o_ 151 (.ext (.t 143) 2),o_ 20 (.alloc [(.int .i64 0),(.int .i64 0),(.int .i64 0),(.int .i64 0)]),o_ 19 (m_ 149),.op none none (.store (.t 20) (.t 150) 4),o_ 21 (m_ 151)])] rfl rfl (by kernel_rfl) ?_
   simp only [go_sem,hYw]
   refine aZ (ACall.vc (first := []) (args := [v,.int .i64 j]) (uC (i := j) (hv.sub hhY) (by omega) (by omega))) ?_
   rintro y3 K3 ⟨hs4,hy3⟩
   have hKw3 := hs4.2 _ _ hYw
   simp only [go_sem,hKw3]
   obtain ⟨f9,f10,f11,f12,hh3⟩ := lV (sU e) hy3
   refine aI hh3.v ?_
   have fin : aG h (K3 ++ [some (Blk.row [AV.int IntKind.i64 f9,AV.int IntKind.i64 f10,AV.int IntKind.i64 f11,AV.int IntKind.i64 f12])]) := (hhY.trans hs4).app
   rcases kO l w with ⟨n1,n2⟩ | ⟨k,n1,n2,n3⟩
   · have n4 := n2 j (by omega)
     have n5 : ¬ (-1 : Int) = j := by omega
     rw [n1,n4]
     simp only [go_sem,n5]
     refine aI eP.v ?_
     simp only [go_sem]
     exact fin
   · rw [n2]
     have n5 : ¬ (k : Int) = -1 := by omega
     by_cases q : (k : Int) = j
     · obtain rfl : k = j := by omega
       rw [n3]
       simp only [go_sem,n5]
       refine aI eP.v ?_
       simp only [go_sem]
       exact fin
     · simp only [go_sem,n5,q]
       refine aI eP.v ?_
       simp only [go_sem]
       exact fin
end Go.Proofs.Ab

/- The own layer under the proofs of this seat, part O: what calls of the program come to on an abstract heap. No condition. -/
import Derived.Test.YtajecdfdnlfndaaGreatN
import Derived.Test.YtajecdfdnlfndaaGreatM
set_option linter.unusedSimpArgs false
set_option linter.unusedVariables false
namespace Go.Proofs.Ab
open Go Go.Proofs
variable {w0 : World} {h : aA}
attribute [local irreducible] ACall bF cU aZ dN rvC lp rg dr ex un rv
theorem aCP {v : AV} {l : List aD} (hv : Sl w0 h 3 v (l.map aD.c)) (hn : l.length ≤ 1000) (hne : l ≠ []) : ACall Tryz.prog w0 105 [v] h fun y H => y = .sl (.own (h.length + 1) 0) l.length 3 false ∧ H = h ++ [some (.row []),some (.row (l.map aD.c).flatten)] := by
 refine dS aU aCl aFL aFK (qE rfl) fun hb ha => aY ?_
 have hv' := hv
 rcases hv with ⟨h1,h2⟩ | ⟨q,f,⟨es',h1,h4⟩,h2,h3⟩
 · simp at h2; exact absurd h2 hne
 rw [List.length_map] at h1
 subst h1
 simp only [go_sem,mf105]
 have hall : rdn w0 h q (l.length * 3) = some (l.map aD.c).flatten := by
  have := Sl.all (w0 := w0) (H := h) (es := 3) (p := q) (rows := l.map aD.c) (by simpa using hne) h3
  rwa [List.length_map] at this
 have hl0 : l.length ≠ 0 := fun e => hne (List.length_eq_zero_iff.1 e)
 have hmem : ∀ x ∈ (l.map aD.c).flatten,∃ n : Int,x = .int .i64 n := fun x hx => by
  obtain ⟨c,hc,hx⟩ := List.mem_flatten.1 hx
  obtain ⟨r,_,rfl⟩ := List.mem_map.1 hc
  simp [aD.c] at hx
  rcases hx with rfl | rfl | rfl <;> exact ⟨_,rfl⟩
 have hone : (l.map aD.c).flatten.all one = true := List.all_eq_true.2 fun x hx => by obtain ⟨n,rfl⟩ := hmem x hx; rfl
 have hap : bT w0 (h ++ [some (.row [])]) 3 24 (.sl (.own h.length 0) 0 3 true) (.sl q l.length es' f) = some (.sl (.own (h.length + 1) 0) l.length 3 false,h ++ [some (.row []),some (.row (l.map aD.c).flatten)]) := by
  have r1 : rdn w0 (h ++ [some (.row [])]) q (l.length * 3) = some (l.map aD.c).flatten := dU hall
  have r2 : rdn w0 (h ++ [some (.row [])]) (.own h.length 0) (0 * 3) = some [] := by simp [rdn]
  simp only [bT,dF,h4,if_true,r1,Option.map_some,Option.bind_some]
  rw [if_neg hl0,if_pos ⟨by simp [gB],by omega,hone⟩,r2]
  simp [eD]
 rw [hap]
 have hbb : ∀ N,AV.bdds N (l.map aD.c).flatten := fun N => aR.2 fun x hx => by obtain ⟨n,rfl⟩ := hmem x hx; exact trivial
 have hbh : HB (h ++ [some (.row []),some (.row (l.map aD.c).flatten)]) := wA hb (by
  intro b hb
  simp only [List.mem_cons,Option.some.injEq,List.not_mem_nil,or_false] at hb
  rcases hb with rfl | rfl
  · exact aR.1 trivial
  · exact aR.1 (hbb _))
 simp only [go_sem]
 exact ⟨_,[],(List.append_nil _).symm,by simp,hbh,by simp [AV.bdd,Pl.bdd],rfl⟩
theorem oR {l : List aD} (hl : l.all bC = true) (i : Nat) : (l.eraseIdx i).all bC = true := by
 rw [List.all_eq_true] at hl ⊢
 exact fun r hr => hl r (List.mem_of_mem_eraseIdx hr)
theorem pJ {H : aA} {b n : Nat} {l k : List aD} {f : Bool} (hb : H[b]? = some (some (.row ((l ++ k).map aD.c).flatten))) (hn : n = l.length) : Sl w0 H 3 (.sl (.own b 0) n 3 f) (l.map aD.c) := by
 refine .inr ⟨.own b 0,f,⟨3,by rw [List.length_map,hn],dD⟩,aI hb,fun j c hc => ?_⟩
 rw [List.getElem?_map] at hc
 obtain ⟨r,hr,rfl⟩ := qD.1 hc
 have hj := aI hr
 have h1 : ((l ++ k).map aD.c)[j]? = some r.c := by rw [List.getElem?_map,qH hj,hr]; rfl
 obtain ⟨g1,g2,_⟩ := qQ (es := 3) (rows := (l ++ k).map aD.c) (fun c hc => by obtain ⟨r,_,rfl⟩ := List.mem_map.1 hc; rfl) h1
 simp only [Pl.add,rdn,hb,Nat.zero_add]
 rw [if_pos g1,g2]
def mK (l : List aD) (w : bJ) : Option Nat := (List.range l.length).find? fun i => (bS (l.eraseIdx i) w).isSome
def gT (l : List aD) (w : bJ) : Int := match mK l w with
 | some i => i
 | none => -1
def fX (l : List aD) (w : bJ) : List AV := if cB l w ≠ 0 then [.int .i64 0,.int .i64 (cB l w)] else if (bS l w).isSome then [.int .i64 0,.int .i64 7] else [.int .i64 (gT l w),.int .i64 0]
theorem rP {l : List aD} {w : bJ} {j : Nat} (hj : j < l.length) (hall : ∀ i,i < j → bS (l.eraseIdx i) w = none) (h : (bS (l.eraseIdx j) w).isSome = true) : gT l w = j := by
 have : mK l w = some j := by
  rw [mK,List.find?_range_eq_some]
  exact ⟨h,List.mem_range.2 hj,fun i hi => by rw [hall i hi]; rfl⟩
 rw [gT,this]
theorem mJ {l : List aD} {w : bJ} (hall : ∀ i,i < l.length → bS (l.eraseIdx i) w = none) : gT l w = -1 := by
 have : mK l w = none := by
  rw [mK,List.find?_eq_none]
  exact fun i hi => by rw [hall i (List.mem_range.1 hi)]; simp
 rw [gT,this]
theorem yY (w : bJ) {v : AV} {l : List aD} (hv : Sl w0 h 3 v (l.map aD.c)) : aZ Tryz.prog w0 55 [v,.agg w.c] h (.tup (fX l w)) h := by
 have hbv : ∀ N,(AV.tup (fX l w)).bdd N := fun N => by
  unfold fX; split
  · simp [AV.bdd,AV.bdds]
  · split <;> simp [AV.bdd,AV.bdds]
 refine cP (hbv _) (bA aU aEo mf55_b mf55_g (qE rfl) fun hb ha => aY ?_)
 have hlen : gJ v = some (.int .i64 l.length) := by have := hv.use.1; rwa [List.length_map] at this
 simp only [go_sem,mf55]
 refine aK (pQ w hv.app).v ?_
 by_cases e : cB l w = 0
 · obtain ⟨hl8,hl,hw⟩ := jU e
   simp only [go_sem,e]
   refine aK (qP w hv.app hl (by omega) hw).v ?_
   cases hH : bS l w with
   | some fd =>
    simp only [go_sem,cX]
    exact ⟨aF.refl.app,by unfold fX; rw [if_neg (by simpa using e),hH]; rfl⟩
   | none =>
    have hV : fX l w = [.int .i64 (gT l w),.int .i64 0] := by unfold fX; rw [if_neg (by simpa using e),hH]; rfl
    rw [hV]
    simp only [go_sem,cX,hlen]
    obtain ⟨X,hX⟩ : ∃ X,X = h ++ [some (Blk.row [AV.int IntKind.i64 w.xl,AV.int IntKind.i64 w.xh,AV.int IntKind.i64 w.yl,AV.int IntKind.i64 w.yh]),some (Blk.row [AV.int IntKind.i64 0,AV.int IntKind.i64 0,AV.int IntKind.i64 0,AV.int IntKind.i64 0])] := ⟨_,rfl⟩
    have hXs : aF h X := hX ▸ aF.refl.app
    have hXw : X[h.length]? = some (some (.row w.c)) := by rw [hX,qI (Nat.le_refl _),Nat.sub_self]; rfl
    refine cD (S := Nat × aA) (F := fun s => [(0,v),(3,.ptr (.own h.length 0)),(27,.int .i64 l.length),(28,.int .i64 s.1)]) (H := fun s => s.2) (meas := fun s => l.length - s.1) (Inv := fun s => s.1 ≤ l.length ∧ aF X s.2 ∧ ∀ i,i < s.1 → bS (l.eraseIdx i) w = none) (0,X) ⟨Nat.zero_le _,aF.refl,fun i hi => by omega⟩ rfl (by rw [hX]) ?_
    rintro ⟨j,H⟩ ⟨hj,hs,hall⟩ ih
    simp only at hj hs hall ih ⊢
    refine aV aU aGi [0,3,27,28] L55_0.eq_1 ?_
    have hHw := hs.2 _ _ hXw
    have hsh := hXs.trans hs
    by_cases hjl : j < l.length
    · have e1 : (j : Int) < l.length := by omega
      have hne : l ≠ [] := fun e => by rw [e] at hjl; simp at hjl
      simp only [go_sem,e1]
      refine oT aU [0,1,3,4,5,2,6,7,8,9,10,11,12,13] [o_ 32 (.load (.t 3) (some 4)),o_ 33 (m_ 0),o_ 35 (m_ 9),o_ 36 (m_ 9),o_ 37 (.bin .add (.t 36) (i_ 1)),.call (some 34) none (f_ 105) [(.t 33)]] [([(0,o_ 32 (.load (.t 3) (some 4)))],[.call (some 38) none (f_ 104) [(.t 34),(.t 35),(.t 37)]]),([(0,o_ 32 (.load (.t 3) (some 4)))],[.call (some 39) none (f_ 80) [(.t 32),(.t 38)],o_ 31 (m_ 39),o_ 40 (.ext (.t 31) 0),o_ 41 (.ext (.t 31) 1),o_ 11 (.alloc [(.int .i64 0),(.int .i64 0),(.int .i64 0),(.int .i64 0)]),o_ 10 (m_ 40),.op none none (.store (.t 11) (.t 41) 4)])] rfl rfl (by kernel_rfl) ?_
      simp only [go_sem,hHw]
      refine ⟨(by unfold I64; omega),?_⟩
      refine aW (ACall.vc (first := []) (aCP (w0 := w0) (hv.sub hsh) (by omega) hne)) ?_
      rintro _ _ ⟨rfl,rfl⟩
      obtain ⟨K,hK⟩ : ∃ K,K = H ++ [some (Blk.row []),some (Blk.row (l.map aD.c).flatten)] := ⟨_,rfl⟩
      have kb : K[H.length + 1]? = some (some (.row (l.map aD.c).flatten)) := by rw [hK,qI (by omega),show H.length + 1 - H.length = 1 by omega]; rfl
      have hKs : aF H K := hK ▸ aF.refl.app
      have hKw := hKs.2 _ _ hHw
      rw [← hK]
      simp only [go_sem,hKw]
      refine aW (ACall.vc (first := []) (args := [.sl (.own (H.length + 1) 0) l.length 3 false,.int .i64 j,.int .i64 ((j : Int) + 1)]) (aCK (w0 := w0) kb hjl (by omega))) ?_
      rintro _ _ ⟨rfl,rfl⟩
      obtain ⟨U,hU⟩ : ∃ U,U = K.set (H.length + 1) (some (.row ((l.eraseIdx j ++ [vB]).map aD.c).flatten)) := ⟨_,rfl⟩
      have hhH := hsh.1
      have hXH := hs.1
      have hUs : aF X U := hU ▸ (hs.trans hKs).setR (by omega)
      have ub : U[H.length + 1]? = some (some (.row ((l.eraseIdx j ++ [vB]).map aD.c).flatten)) := by rw [hU,qF (aI kb)]
      have hUw := hUs.2 _ _ hXw
      rw [← hU]
      simp only [go_sem,hUw]
      have hel : (l.eraseIdx j).length = l.length - 1 := by rw [List.length_eraseIdx,if_pos hjl]
      refine aK (qP w (pJ ub hel.symm) (oR hl j) (by omega) hw).v ?_
      cases hh : bS (l.eraseIdx j) w with
      | some fd =>
       simp only [go_sem,cX]
       exact ⟨(hXs.trans hUs).app,by rw [rP hjl hall (by rw [hh]; rfl)]⟩
      | none =>
       simp only [go_sem,cX]
       refine ⟨(by unfold I64; omega),ih (j + 1,U ++ [some (Blk.row [AV.int IntKind.i64 0,AV.int IntKind.i64 0,AV.int IntKind.i64 0,AV.int IntKind.i64 0])]) ⟨by simp only; omega,hUs.app,fun i hi => ?_⟩ (by simp only; omega)⟩
       by_cases q : i = j
       · subst q; exact hh
       · exact hall i (by simp only at hi; omega)
    · have e1 : ¬ (j : Int) < l.length := by omega
      obtain rfl : j = l.length := by omega
      simp only [go_sem,e1]
      exact ⟨hsh,by rw [mJ hall]⟩
 · simp only [go_sem,e]
   exact ⟨aF.refl.app,by unfold fX; rw [if_pos e]⟩
theorem nan_c (x : Int) : aZ Tryz.prog w0 147 [.int .i64 x] h (.bool false) h := by
 refine aT aU sP xI xH (qE rfl) (by simp [AV.bdd,AV.bdds]) fun hb ha => aY ?_
 simp only [go_sem,mf147]
 simp
theorem cmp_c (x y : Int) : aZ Tryz.prog w0 138 [.int .i64 x,.int .i64 y] h (.int .i64 (if x < y then -1 else if x > y then 1 else 0)) h := by
 refine aT aU aBW aEX aEW (qE rfl) (by simp [AV.bdd,AV.bdds]) fun hb ha => aY ?_
 simp only [go_sem,mf138]
 refine aK (nan_c x).v ?_
 simp only [go_sem]
 refine aK (nan_c y).v ?_
 by_cases h1 : x < y
 · simp only [go_sem,h1]
 · by_cases h2 : x > y
   · simp only [go_sem,h1,h2]
   · simp only [go_sem,h1,h2]
def vQ (a b : List Int) : Int := if a = b then 0 else if eE a b then -1 else 1
theorem aCW {a b : List Int} : ∀ {j : Nat} {x y : Int},(∀ i,i < j → a[i]? = b[i]?) → a[j]? = some x → b[j]? = some y → x ≠ y → eE a b = decide (x < y) ∧ a ≠ b := fun {j x y} h1 h2 h3 h4 => by
 have ha := aI h2
 have hb := aI h3
 have e : a.take j = b.take j := List.ext_getElem? fun i => by
  by_cases q : i < j
  · rw [List.getElem?_take_of_lt q,List.getElem?_take_of_lt q,h1 i q]
  · rw [List.getElem?_take_eq_none (by omega),List.getElem?_take_eq_none (by omega)]
 have ea : a = a.take j ++ x :: a.drop (j + 1) := by
  have := List.take_append_drop j a
  rw [List.drop_eq_getElem_cons ha,(List.getElem?_eq_some_iff.1 h2).2] at this
  exact this.symm
 have eb : b = a.take j ++ y :: b.drop (j + 1) := by
  have := List.take_append_drop j b
  rw [List.drop_eq_getElem_cons hb,(List.getElem?_eq_some_iff.1 h3).2,← e] at this
  exact this.symm
 constructor
 · rw [ea,eb,gD,eE,if_neg h4]
 · intro q
   rw [q,h3] at h2
   cases h2
   exact h4 rfl
theorem aAz {xv yv : AV} {a b : List Int} (hx : SlI w0 h xv a) (hy : SlI w0 h yv b) (hl : a.length = b.length) (hn : a.length < 1000000) : aZ Tryz.prog w0 106 [xv,yv] h (.int .i64 (vQ a b)) h := by
 refine aT aU aCk aFJ aFI (qE rfl) (by simp [AV.bdd,AV.bdds]) fun hb ha => aY ?_
 have hla := (SlI.use hx).1
 have hlb := (SlI.use hy).1
 simp only [go_sem,mf106,hla]
 refine mW (fun j => [(0,xv),(1,yv),(9,xv),(10,.int .i64 a.length),(11,.int .i64 j)]) (fun j => a[j]? = b[j]?) a.length rfl (fun j hj hall ih => ?_) (fun hall => ?_)
 · refine aV aU uC [0,1,9,10,11] L106_0.eq_1 ?_
   have e1 : (j : Int) < a.length := by omega
   have hjb : j < b.length := by omega
   have e2 : ¬ (j : Int) ≥ b.length := by omega
   obtain ⟨p,i1,r1,r1'⟩ := hx.at_ hj
   obtain ⟨p2,i2,r2,r2'⟩ := hy.at_ hjb
   have ea : a[j]? = some a[j] := qA hj
   have eb : b[j]? = some b[j] := qA hjb
   simp only [go_sem,e1,i1,r1,r1',hlb,e2,i2,r2,r2']
   refine aK (cmp_c a[j] b[j]).v ?_
   rcases Int.lt_trichotomy a[j] b[j] with q | q | q
   · obtain ⟨g1,g2⟩ := aCW hall ea eb (by omega)
     simp only [go_sem,q]
     rw [vQ,if_neg g2,g1,decide_eq_true q]; rfl
   · have e3 : ¬ a[j] < b[j] := by omega
     have e4 : ¬ a[j] > b[j] := by omega
     simp only [go_sem,e3,e4]
     exact ⟨(by unfold I64; omega),ih (by rw [ea,eb,q])⟩
   · obtain ⟨g1,g2⟩ := aCW hall ea eb (by omega)
     have e3 : ¬ a[j] < b[j] := by omega
     simp only [go_sem,e3,q]
     rw [vQ,if_neg g2,g1,decide_eq_false e3]; rfl
 · refine aV aU uC [0,1,9,10,11] L106_0.eq_1 ?_
   have e1 : ¬ (a.length : Int) < a.length := by omega
   have e2 : ¬ (a.length : Int) < b.length := by omega
   have e3 : a = b := List.ext_getElem? fun i => by
    by_cases q : i < a.length
    · exact hall i q
    · rw [List.getElem?_eq_none (by omega),List.getElem?_eq_none (by omega)]
   simp only [go_sem,e1,hla,hlb,e2]
   rw [vQ,if_pos e3]
def aAQ (w0 : World) (H : aA) (y : AV) (l : List aD) (w : bJ) : Prop :=
 if cB l w ≠ 0 then y = .tup [.nilS,.int .i64 (cB l w)] else match tO l w with
  | none => y = .tup [.nilS,.int .i64 5]
  | some s => ∃ sv,y = .tup [sv,.int .i64 0] ∧ SlI w0 H sv (cst s)
def lN (w0 : World) (H : aA) (bv : AV) : Option (List Nat) → Prop
 | none => bv = .nilS
 | some s => SlI w0 H bv (cst s)
theorem lN.sub {G H : aA} {bv : AV} {o : Option (List Nat)} (a : lN w0 G bv o) (s : aF G H) : lN w0 H bv o := by
 cases o with
 | none => exact a
 | some t => exact Sl.sub a s
structure kO (H0 H : aA) (sv mv : AV) (ios iom : Nat) (set : List Nat) (l : List aD) : Prop where
 sub : aF H0 H
 s : (set.length = 0 ∧ sv = .nilS) ∨ (set.length ≠ 0 ∧ H0.length ≤ ios ∧ sv = .sl (.own ios 0) set.length 1 false ∧ H[ios]? = some (some (.row (dG (cst set)))))
 m : (set.length = 0 ∧ mv = .nilS) ∨ (set.length ≠ 0 ∧ H0.length ≤ iom ∧ mv = .sl (.own iom 0) set.length 3 false ∧ H[iom]? = some (some (.row ((ofR l set).map aD.c).flatten)))
 ne : set.length ≠ 0 → ios ≠ iom
theorem jX {l : List aD} {s : List Nat} : (ofR l s).length = s.length := by simp [ofR]
section
variable {H0 H : aA} {sv mv : AV} {ios iom : Nat} {set : List Nat} {l : List aD}
theorem kO.slI (a : kO H0 H sv mv ios iom set l) : SlI w0 H sv (cst set) := by
 rcases a.s with ⟨h1,rfl⟩ | ⟨_,_,rfl,h2⟩
 · exact .inl ⟨rfl,by rw [List.eq_nil_of_length_eq_zero h1]; rfl⟩
 · exact eO h2 bE.symm
theorem kO.sl (a : kO H0 H sv mv ios iom set l) : Sl w0 H 3 mv ((ofR l set).map aD.c) := by
 rcases a.m with ⟨h1,rfl⟩ | ⟨_,_,rfl,h2⟩
 · exact .inl ⟨rfl,by rw [List.eq_nil_of_length_eq_zero h1]; rfl⟩
 · exact pJ (k := []) (by rw [List.append_nil]; exact h2) jX.symm
theorem kO.app {L : aA} (a : kO H0 H sv mv ios iom set l) : kO H0 (H ++ L) sv mv ios iom set l :=
 ⟨a.sub.app,a.s.imp (fun x => x) fun ⟨h1,h2,h3,h4⟩ => ⟨h1,h2,h3,aC h4⟩,a.m.imp (fun x => x) fun ⟨h1,h2,h3,h4⟩ => ⟨h1,h2,h3,aC h4⟩,a.ne⟩
theorem kO.go (a : kO H0 H sv mv ios iom set l) {i rb : Nat} {r : aD} (hb : H[rb]? = some (some (.row r.c))) (h1 : set.length ≠ 0 → rb ≠ ios ∧ rb ≠ iom) (hn : set.length ≤ 1000) :
 GO w0 H ⟨sv,mv,i,set.length,set.length,ios,iom,dG (cst set),((ofR l set).map aD.c).flatten,r.c⟩ (.own rb 0) := by
 refine ⟨?_,?_,fun h _ => a.ne h,?_,rfl,rfl,⟨hn,hn⟩⟩
 · rcases a.s with ⟨h1,h2⟩ | ⟨h1,h2,h3,h4⟩
   · exact .inl ⟨h1,h2,by rw [List.eq_nil_of_length_eq_zero h1]; rfl⟩
   · exact .inr ⟨h1,h3,h4,by rw [aCw,bE,Nat.mul_one]⟩
 · rcases a.m with ⟨h1,h2⟩ | ⟨h1,h2,h3,h4⟩
   · exact .inl ⟨h1,h2,by rw [List.eq_nil_of_length_eq_zero h1]; rfl⟩
   · exact .inr ⟨h1,h3,h4,by rw [gE,jX]⟩
 · have : (Ab.mk set.length ios (Ab.mk set.length iom H))[rb]? = some (some (Blk.row r.c)) := by
    unfold Ab.mk
    by_cases q : set.length = 0
    · rw [if_pos q,if_pos q]; exact hb
    · rw [if_neg q,if_neg q,qB (h1 q).1.symm,qB (h1 q).2.symm]; exact hb
   simp only [rdn,this]
   rfl
theorem kO.base (a : kO H0 H sv mv ios iom set l) : aF H0 (Ab.mk set.length ios (Ab.mk set.length iom H)) := by
 unfold Ab.mk
 by_cases q : set.length = 0
 · rw [if_pos q,if_pos q]; exact a.sub
 · rw [if_neg q,if_neg q]
   refine (a.sub.setR ?_).setR ?_
   · rcases a.m with h | h
     · exact absurd h.1 q
     · exact h.2.1
   · rcases a.s with h | h
     · exact absurd h.1 q
     · exact h.2.1
end
theorem lN.app {H L : aA} {bv : AV} {o : Option (List Nat)} (a : lN w0 H bv o) : lN w0 (H ++ L) bv o := a.sub aF.refl.app
theorem aCO {a b : List Int} : (vQ a b ≥ 0) ↔ eE a b = false := by
 unfold vQ
 by_cases q : a = b
 · subst q
   have := gD a [] []
   rw [List.append_nil] at this
   rw [if_pos rfl,this]; simp [eE]
 · rw [if_neg q]
   cases eE a b <;> simp
set_option maxRecDepth 20000 in
set_option maxHeartbeats 4000000 in
theorem uD (w : bJ) {v : AV} {l : List aD} (hv : Sl w0 h 3 v (l.map aD.c)) : ACall Tryz.prog w0 56 [v,.agg w.c] h fun y H => aF h H ∧ aAQ w0 H y l w := by
 refine bA aU aEn mf56_b mf56_g (qE rfl) fun hb ha => aY ?_
 have hlen : gJ v = some (.int .i64 l.length) := by have := hv.use.1; rwa [List.length_map] at this
 simp only [go_sem,mf56]
 refine aK (pQ w hv.app).v ?_
 by_cases e : cB l w = 0
 · obtain ⟨hl8,hl,hw⟩ := jU e
   have s1 := aCU (n := l.length) (by omega)
   have hp : 2 ^ l.length ≤ 2 ^ 8 := Nat.pow_le_pow_right (by omega) hl8
   simp only [go_sem,e,hlen,s1]
   obtain ⟨X,hX⟩ : ∃ X,X = h ++ [some (Blk.row w.c)] := ⟨_,rfl⟩
   have hXs : aF h X := hX ▸ aF.refl.app
   have hXw : X[h.length]? = some (some (.row w.c)) := by rw [hX,qI (Nat.le_refl _),Nat.sub_self]; rfl
   refine cD (S := Nat × aA × AV × Option (List Nat)) (F := fun s => [(0,v),(3,.ptr (.own h.length 0)),(7,s.2.2.1),(8,.bool s.2.2.2.isSome),(24,.int .i64 ((2 ^ l.length : Nat) : Int)),(25,.int .i64 s.1)]) (H := fun s => s.2.1) (meas := fun s => 2 ^ l.length - s.1)
    (Inv := fun s => s.1 ≤ 2 ^ l.length ∧ aF X s.2.1 ∧ s.2.2.2 = nF l w s.1 ∧ lN w0 s.2.1 s.2.2.1 s.2.2.2) (0,X,.nilS,none) ⟨Nat.zero_le _,aF.refl,rfl,rfl⟩ rfl (by rw [hX]; rfl) ?_
   rintro ⟨b,H,bv,best⟩ ⟨hb1,hs,hbest,hbv⟩ ih
   simp only at hb1 hs hbest hbv ih ⊢
   refine aV aU aGg [0,3,7,8,24,25] L56_1.eq_1 ?_
   by_cases hbl : b < 2 ^ l.length
   · have e1 : (b : Int) < ((2 ^ l.length : Nat) : Int) := by omega
     simp only [go_sem,e1,hlen]
     have hb62 : b < 2 ^ 62 := by omega
     refine cD (S := Nat × aA × (AV × AV) × (Nat × Nat)) (F := fun s => [(0,v),(3,.ptr (.own h.length 0)),(7,bv),(8,.bool best.isSome),(9,.int .i64 b),(10,s.2.2.1.1),(11,s.2.2.1.2),(24,.int .i64 ((2 ^ l.length : Nat) : Int)),(25,.int .i64 b),(28,v),(29,.int .i64 l.length),(30,.int .i64 s.1)]) (H := fun s => s.2.1) (meas := fun s => l.length - s.1)
      (Inv := fun s => s.1 ≤ l.length ∧ kO H s.2.1 s.2.2.1.1 s.2.2.1.2 s.2.2.2.1 s.2.2.2.2 (aN s.1 b) l) (0,H,(.nilS,.nilS),(0,0)) ⟨Nat.zero_le _,aF.refl,.inl ⟨rfl,rfl⟩,.inl ⟨rfl,rfl⟩,fun h => absurd rfl h⟩ rfl rfl ?_
     rintro ⟨i,H1,⟨sv,mv⟩,ios,iom⟩ ⟨hi,hI⟩ ih2
     simp only at hi hI ih2 ⊢
     have hbl8 : (aN i b).length ≤ 8 := by have := qN (jL (n := i) (b := b)); omega
     refine aV aU aGh [0,3,7,8,9,10,11,24,25,28,29,30] L56_0.eq_1 ?_
     have hsh := hXs.trans (hs.trans hI.sub)
     by_cases hil : i < l.length
     · have e2 : (i : Int) < l.length := by omega
       obtain ⟨_,q,hix,hrow,_⟩ := hv.use
       rw [List.length_map] at hix
       have e3 := hix i hil
       have hr0 := hrow i _ (fZ hil)
       have e4 : rdn w0 H1 (q.add (i * 3)) 3 = some l[i].c := hsh.rdn hr0
       obtain ⟨r,hr⟩ : ∃ r,r = l[i] := ⟨_,rfl⟩
       rw [← hr] at e4
       have s2 := aF5 (a := b) (n := i) (by omega)
       have s3 := aCV (a := b / 2 ^ i) (by have := Nat.div_le_self b (2 ^ i); omega)
       rw [shr_bt] at s3
       have hbs := nL (n := i) (b := b)
       cases hbt : b.testBit i with
       | false =>
        rw [hbt,if_neg (by simp)] at s3
        rw [hbt] at hbs
        simp only [Bool.false_eq_true,if_false,List.append_nil] at hbs
        simp only [go_sem,e2,e3,e4,s2,s3]
        refine ⟨(by unfold I64; omega),ih2 (i + 1,_,(sv,mv),ios,iom) ⟨by simp only; omega,?_⟩ (by simp only; omega)⟩
        simp only
        rw [hbs]
        exact hI.app (L := [some (.row r.c)])
       | true =>
        rw [hbt,if_pos rfl] at s3
        rw [hbt,if_pos rfl] at hbs
        simp only [go_sem,e2,e3,e4,s2,s3]
        obtain ⟨G,hG⟩ : ∃ G,G = H1 ++ [some (Blk.row [AV.int IntKind.i64 r.x,AV.int IntKind.i64 r.y,AV.int IntKind.i64 r.s])] := ⟨_,rfl⟩
        have hIG : kO H G sv mv ios iom (aN i b) l := hG ▸ hI.app
        have hgb : G[H1.length]? = some (some (.row r.c)) := by rw [hG,qI (Nat.le_refl _),Nat.sub_self]; rfl
        rw [← hG]
        have hne : (aN i b).length ≠ 0 → H1.length ≠ ios ∧ H1.length ≠ iom := fun n => by
         refine ⟨fun e => ?_,fun e => ?_⟩
         · rcases hI.s with h1 | h1
           · exact n h1.1
           · have := aI h1.2.2.2; omega
         · rcases hI.m with h1 | h1
           · exact n h1.1
           · have := aI h1.2.2.2; omega
        have go := hIG.go (w0 := w0) (i := i) hgb hne (by omega)
        refine aDB (r := 0) go rfl rfl rfl rfl fun fr K a3 a7 kp f10 f11 ks ka kaa k3 k7 => ?_
        have f0 : fr.get 0 = v := kp 0 (by omega) (by omega) (by omega)
        have f3 : fr.get 3 = .ptr (.own h.length 0) := kp 3 (by omega) (by omega) (by omega)
        have f7 : fr.get 7 = bv := kp 7 (by omega) (by omega) (by omega)
        have f8 : fr.get 8 = .bool best.isSome := kp 8 (by omega) (by omega) (by omega)
        have f9 : fr.get 9 = .int .i64 b := kp 9 (by omega) (by omega) (by omega)
        have f24 : fr.get 24 = .int .i64 ((2 ^ l.length : Nat) : Int) := kp 24 (by omega) (by omega) (by omega)
        have f25 : fr.get 25 = .int .i64 b := kp 25 (by omega) (by omega) (by omega)
        have f28 : fr.get 28 = v := kp 28 (by omega) (by omega) (by omega)
        have f29 : fr.get 29 = .int .i64 l.length := kp 29 (by omega) (by omega) (by omega)
        have f30 : fr.get 30 = .int .i64 i := kp 30 (by omega) (by omega) (by omega)
        simp only at f10 f11 k3 k7 ka
        have hHG := hIG.sub.1
        simp only [go_sem,f0,f3,f7,f8,f9,f10,f11,f24,f25,f28,f29,f30]
        have hlen2 : (aN (i + 1) b).length = (aN i b).length + 1 := by rw [hbs]; simp
        have hS' : kO H K (.sl (.own a3 0) ((aN i b).length + 1) 1 false) (.sl (.own a7 0) ((aN i b).length + 1) 3 false) a3 a7 (aN (i + 1) b) l := by
         refine ⟨hIG.base.trans ks,.inr ⟨by omega,by omega,by rw [hlen2],?_⟩,.inr ⟨by omega,by omega,by rw [hlen2],?_⟩,fun _ => by omega⟩
         · rw [k3,hbs,fK]; simp [dG]
         · rw [k7,hbs,ofR,ofR,List.map_append,List.map_append,List.flatten_append]
           simp only [List.map_cons,List.map_nil,List.flatten_cons,List.flatten_nil,List.append_nil]
           rw [getD_at hil,← hr]
        exact ⟨(by unfold I64; omega),ih2 (i + 1,K,(_,_),a3,a7) ⟨by simp only; omega,hS'⟩ (by simp only; omega)⟩
     · have e2 : ¬ (i : Int) < l.length := by omega
       obtain rfl : i = l.length := by omega
       have hSI := hI.slI (w0 := w0)
       have hSM := hI.sl (w0 := w0)
       have hls := (SlI.use hSI).1
       rw [bE] at hls
       have hXH := (hs.trans hI.sub).2 _ _ hXw
       have hbv1 := hbv.sub hI.sub
       have hhold : ∀ {L : aA},aZ Tryz.prog w0 80 [.agg w.c,mv] (H1 ++ L) (.tup (cX (bS (ofR l (aN l.length b)) w))) (H1 ++ L) := qP w hSM.app (wT (n := l.length) hl fun x hx => jL.lt x hx) (by rw [jX]; omega) hw
       have hfs := yO (l := l) (w := w) (B := b)
       rw [← hbest] at hfs
       have next : ∀ (L : aA) (bv' : AV) (best' : Option (List Nat)),best' = nF l w (b + 1) → lN w0 (H1 ++ L) bv' best' → lp Tryz.prog w0 none 82 h.length _ _ _ [(0,v),(3,.ptr (.own h.length 0)),(7,bv'),(8,.bool best'.isSome),(24,.int .i64 ((2 ^ l.length : Nat) : Int)),(25,.int .i64 ((b + 1 : Nat) : Int))] (H1 ++ L) := fun L bv' best' e1 e2 =>
        ih (b + 1,H1 ++ L,bv',best') ⟨by simp only; omega,(hs.trans hI.sub).app,e1,e2⟩ (by simp only; omega)
       have hHd := fun (hx : (aN l.length b).length ≤ 8) => hx
       have tail1 : dC l w (aN l.length b) = (bS (ofR l (aN l.length b)) w).isNone := rfl
       match best,hbest,hbv1,hfs,next with
       | none,hbest,hbv1,hfs,next =>
        simp only [go_sem,e2,Option.isSome,hXH]
        have hh := hhold (L := [])
        rw [List.append_nil] at hh
        refine aK hh.v ?_
        rw [gK,tail1] at hfs
        cases hc : bS (ofR l (aN l.length b)) w with
        | some fd =>
         rw [hc] at hfs
         simp only [go_sem,cX]
         exact ⟨(by unfold I64; omega),next _ bv none hfs.symm hbv1.app⟩
        | none =>
         rw [hc] at hfs
         simp only [go_sem,cX]
         exact ⟨(by unfold I64; omega),next _ sv (some (aN l.length b)) hfs.symm (Sl.app hSI)⟩
       | some t,hbest,hbv1,hfs,next =>
        have hlt := (SlI.use hbv1).1
        rw [bE] at hlt
        rw [gK,tail1] at hfs
        have hh := hhold (L := [])
        rw [List.append_nil] at hh
        have next0 := next []
        rw [List.append_nil] at next0
        have hbvt : SlI w0 H1 bv (cst t) := hbv1
        by_cases q1 : ((aN l.length b).length : Int) > t.length
        · have hf : few (aN l.length b) t = false := by
           refine Bool.eq_false_iff.2 fun h => ?_
           rw [dI] at h
           omega
          rw [hf] at hfs
          simp only [Bool.false_eq_true,if_false] at hfs
          simp only [go_sem,e2,Option.isSome,hls,hlt,q1]
          exact ⟨(by unfold I64; omega),next0 bv (some t) hfs.symm hbv1⟩
        · by_cases q2 : ((aN l.length b).length : Int) = t.length
          · have q3 : ¬ (t.length : Int) > t.length := by omega
            have hcmp := aAz (w0 := w0) hSI hbvt (by rw [bE,bE]; omega) (by rw [bE]; omega)
            cases hbf : eE (cst (aN l.length b)) (cst t) with
            | false =>
             have hge := aCO.2 hbf
             have hf : few (aN l.length b) t = false := by
              refine Bool.eq_false_iff.2 fun h => ?_
              rw [dI,hbf] at h
              rcases h with h | h
              · omega
              · cases h.2
             rw [hf] at hfs
             simp only [Bool.false_eq_true,if_false] at hfs
             simp only [go_sem,e2,Option.isSome,hls,hlt,q1,q2,q3]
             refine aK hcmp.v ?_
             simp only [go_sem,hge]
             exact ⟨(by unfold I64; omega),next0 bv (some t) hfs.symm hbv1⟩
            | true =>
             have hge : ¬ vQ (cst (aN l.length b)) (cst t) ≥ 0 := fun h => by rw [aCO.1 h] at hbf; cases hbf
             have hf : few (aN l.length b) t = true := dI.2 (.inr ⟨by omega,hbf⟩)
             rw [hf] at hfs
             simp only [if_true] at hfs
             simp only [go_sem,e2,Option.isSome,hls,hlt,q1,q2,q3]
             refine aK hcmp.v ?_
             simp only [go_sem,hge,hXH]
             refine aK hh.v ?_
             cases hc : bS (ofR l (aN l.length b)) w with
             | some fd =>
              rw [hc] at hfs
              simp only [go_sem,cX]
              exact ⟨(by unfold I64; omega),next _ bv (some t) hfs.symm hbv1.app⟩
             | none =>
              rw [hc] at hfs
              simp only [go_sem,cX]
              exact ⟨(by unfold I64; omega),next _ sv (some (aN l.length b)) hfs.symm (Sl.app hSI)⟩
          · have hf : few (aN l.length b) t = true := dI.2 (.inl (by omega))
            rw [hf] at hfs
            simp only [if_true] at hfs
            simp only [go_sem,e2,Option.isSome,hls,hlt,q1,q2,hXH]
            refine aK hh.v ?_
            cases hc : bS (ofR l (aN l.length b)) w with
            | some fd =>
             rw [hc] at hfs
             simp only [go_sem,cX]
             exact ⟨(by unfold I64; omega),next _ bv (some t) hfs.symm hbv1.app⟩
            | none =>
             rw [hc] at hfs
             simp only [go_sem,cX]
             exact ⟨(by unfold I64; omega),next _ sv (some (aN l.length b)) hfs.symm (Sl.app hSI)⟩
   · have e1 : ¬ (b : Int) < ((2 ^ l.length : Nat) : Int) := by omega
     obtain rfl : b = 2 ^ l.length := by omega
     have hf : best = tO l w := hbest
     cases hbb : best with
     | none =>
      subst hbb
      simp only [go_sem,e1,Option.isSome]
      exact ⟨hXs.trans hs,by unfold aAQ; rw [if_neg (by simpa using e),← hf]⟩
     | some s =>
      subst hbb
      simp only [go_sem,e1,Option.isSome]
      exact ⟨hXs.trans hs,by unfold aAQ; rw [if_neg (by simpa using e),← hf]; exact ⟨bv,rfl,hbv⟩⟩
 · simp only [go_sem,e]
   exact ⟨aF.refl.app,by unfold aAQ; rw [if_pos e]⟩
theorem rof_c {v sv : AV} {l : List aD} {s : List Nat} (hv : Sl w0 h 3 v (l.map aD.c)) (hs : SlI w0 h sv (cst s)) (hlt : ∀ x ∈ s,x < l.length) (hn : s.length ≤ 1000) :
 ACall Tryz.prog w0 61 [v,sv] h fun y H => aF h H ∧ Sl w0 H 3 y ((ofR l s).map aD.c) := by
 refine bA aU aEj mf61_b mf61_g (qE rfl) fun hb ha => aY ?_
 have hls := (SlI.use hs).1
 rw [bE] at hls
 obtain ⟨_,q,hix,hrow,_⟩ := hv.use
 rw [List.length_map] at hix
 simp only [go_sem,mf61]
 refine cD (S := Nat × aA × AV) (F := fun t => [(0,v),(1,sv),(5,t.2.2),(6,.int .i64 t.1)]) (H := fun t => t.2.1) (meas := fun t => s.length - t.1) (Inv := fun t => t.1 ≤ s.length ∧ Gro h t.2.1 3 t.1 t.2.2 ((ofR l (s.take t.1)).map aD.c).flatten) (0,h,.nilS) ⟨Nat.zero_le _,by simpa [ofR] using Gro.nil aF.refl⟩ rfl (by simp) ?_
 rintro ⟨j,H,ov⟩ ⟨hj,hG⟩ ih
 simp only at hj hG ih ⊢
 refine aV aU aGa [0,1,5,6] L61_0.eq_1 ?_
 by_cases hjl : j < s.length
 · have e1 : (j : Int) < s.length := by omega
   obtain ⟨p,i1,r1,r1'⟩ := SlI.at_ (Sl.sub hs hG.sub) (j := j) (by rw [bE]; exact hjl)
   have hcj : (cst s)[j]'(by rw [bE]; exact hjl) = (s[j] : Int) := by simp [cst]
   rw [hcj] at r1 r1'
   have hx := hlt _ (qG hjl)
   have e3 := hix s[j] hx
   have e4 := hG.sub.rdn (hrow s[j] _ (fZ hx))
   simp only [go_sem,hls,e1,i1,r1,r1',e3,e4,vD]
   obtain ⟨Y,eY⟩ : ∃ Y,Y = H ++ [some (Blk.row [AV.int IntKind.i64 l[s[j]].x,AV.int IntKind.i64 l[s[j]].y,AV.int IntKind.i64 l[s[j]].s])] := ⟨_,rfl⟩
   have gY : Gro h Y 3 j ov ((ofR l (s.take j)).map aD.c).flatten := eY ▸ hG.app
   have hkk : Y[H.length]? = some (some (.row l[s[j]].c)) := by rw [eY,qI (Nat.le_refl _),Nat.sub_self]; rfl
   obtain ⟨G2,e5,e6⟩ := gY.more (w0 := w0) (b := 24) (f := true) hkk rfl rfl (by omega) (by omega)
   rw [← eY,e5]
   simp only [go_sem]
   refine ⟨(by unfold I64; omega),ih (j + 1,G2,_) ⟨by simp only; omega,?_⟩ (by simp only; omega)⟩
   simp only
   rw [List.take_succ_eq_append_getElem hjl,ofR,List.map_append,List.map_append,List.flatten_append,List.map_singleton,List.map_singleton,getD_at hx]
   simpa [ofR] using e6
 · have e1 : ¬ (j : Int) < s.length := by omega
   obtain rfl : j = s.length := by omega
   rw [List.take_length] at hG
   simp only [go_sem,hls,e1]
   exact ⟨hG.sub,hG.sl (fun c hc => by obtain ⟨r,_,rfl⟩ := List.mem_map.1 hc; rfl) (by rw [List.length_map,jX]) (by omega)⟩
theorem aBo {es : Nat} {q : Pl} {rows : List (List AV)} (hq : ∀ (j : Nat) c,rows[j]? = some c → rdn w0 h (q.add (j * es)) es = some c) (hne : rows ≠ []) (k m : Nat) (hkm : k + m ≤ rows.length) : rdn w0 h (q.add (k * es)) (m * es) = some ((rows.drop k).take m).flatten := by
 by_cases hm : m = 0
 · subst hm
   rw [Nat.zero_mul,List.take_zero]
   cases q with
   | old a => simp [Pl.add,rdn]
   | own i o =>
    have hp := List.length_pos_iff.2 hne
    have h1 : ∃ j,j < rows.length ∧ (k = j ∨ k = j + 1) := by
     by_cases q : k < rows.length
     · exact ⟨k,q,.inl rfl⟩
     · exact ⟨k - 1,by omega,.inr (by omega)⟩
    obtain ⟨j,hj,hk⟩ := h1
    have h2 := hq j _ (qA hj)
    simp only [Pl.add,rdn] at h2 ⊢
    split at h2
    · rename_i c hc
      split at h2
      · rename_i hle
        rw [if_pos (by rcases hk with rfl | rfl <;> (try rw [Nat.succ_mul]) <;> omega)]
        simp
      · cases h2
    · cases h2
 · have := Sl.all (w0 := w0) (H := h) (es := es) (p := q.add (k * es)) (rows := (rows.drop k).take m) (by
    intro e
    have := congrArg List.length e
    rw [List.length_take,List.length_drop,List.length_nil] at this; omega) (fun j c hc => by
    have hj := aI hc
    rw [List.length_take,List.length_drop] at hj
    rw [List.getElem?_take_of_lt (by omega),List.getElem?_drop] at hc
    have := hq (k + j) c hc
    rw [Nat.add_mul] at this
    rwa [Pl.add_add])
   rwa [List.length_take,List.length_drop,show min m (rows.length - k) = m by omega] at this
theorem uQ {v : AV} {l : List aD} {i : Nat} (hv : Sl w0 h 3 v (l.map aD.c)) (hi : i < l.length) (hn : l.length ≤ 1000) :
 ACall Tryz.prog w0 62 [v,.int .i64 i] h fun y H => aF h H ∧ Sl w0 H 3 y ((l.eraseIdx i).map aD.c) := by
 refine bA aU aEi mf62_b mf62_g (qE rfl) fun hb ha => aY ?_
 have hne : l.map aD.c ≠ [] := by intro e; have := congrArg List.length e; simp at this; subst this; simp at hi
 rcases hv with ⟨_,h2⟩ | ⟨q,f,⟨es',h1,h4⟩,h2,h3⟩
 · exact absurd h2 hne
 rw [List.length_map] at h1
 subst h1
 have hones : ∀ k m,((((l.map aD.c).drop k).take m).flatten).all one = true := fun k m => by
  rw [List.all_eq_true]
  intro x hx
  obtain ⟨c,hc,hx⟩ := List.mem_flatten.1 hx
  have := List.mem_of_mem_drop (List.mem_of_mem_take hc)
  obtain ⟨r,_,rfl⟩ := List.mem_map.1 this
  simp [aD.c] at hx
  rcases hx with rfl | rfl | rfl <;> rfl
 have hesq : ∀ k,gB (q.add k) 3 es' = true := fun k => by cases q <;> exact h4
 have src : ∀ (L : aA) (k m : Nat) (b : Bool),k + m ≤ l.length → dF w0 (h ++ L) 3 (.sl (q.add (k * 3)) m es' b) = some (m,(((l.map aD.c).drop k).take m).flatten) := fun L k m b hkm => by
  simp only [dF,hesq,if_true]
  rw [dU (aBo (w0 := w0) (h := h) h3 hne k m (by rw [List.length_map]; exact hkm))]; rfl
 have b1 : i ≤ l.length := by omega
 have b2 : i + 1 ≤ l.length := by omega
 have herase : (l.eraseIdx i).map aD.c = (((l.map aD.c).drop 0).take i) ++ (((l.map aD.c).drop (i + 1)).take (l.length - (i + 1))) := by
  rw [List.eraseIdx_eq_take_drop_succ,List.map_append,List.drop_zero,List.map_take,List.map_drop,List.take_of_length_le (l := (l.map aD.c).drop (i + 1)) (by rw [List.length_drop,List.length_map]; omega)]
 have hix : ∀ x ∈ (l.eraseIdx i).map aD.c,x.length = 3 := fun x hx => by obtain ⟨r,_,rfl⟩ := List.mem_map.1 hx; rfl
 have hlen : ∀ k m,k + m ≤ l.length → ((((l.map aD.c).drop k).take m).flatten).length = m * 3 := fun k m hkm => by
  rw [← List.map_drop,← List.map_take,gE,List.length_take,List.length_drop]; congr 1; omega
 simp only [go_sem,mf62]
 obtain ⟨z1,hz1⟩ : ∃ z1,z1 = AV.sl (q.add (0 * 3)) (i - 0) es' (cT none i (f && i == l.length)) := ⟨_,rfl⟩
 obtain ⟨z2,hz2⟩ : ∃ z2,z2 = AV.sl (q.add ((i + 1) * 3)) (l.length - (i + 1)) es' (cT none l.length (f && l.length == l.length)) := ⟨_,rfl⟩
 have sl1 : ∀ fr : Fr,fr.get 6 = .int .i64 i → rV 3 fr (.sl q l.length es' f) none (some (.t 6)) none = some z1 := fun fr hf => by
  simp only [rV,show gB q 3 es' = true from h4,if_true,aCT,Opd.ev,hf,bP,vD,bdK_2]
  rw [if_pos ⟨Nat.zero_le _,b1⟩,hz1]; rfl
 have sl2 : ∀ fr : Fr,fr.get 11 = .int .i64 ((i : Int) + 1) → rV 3 fr (.sl q l.length es' f) (some (.t 11)) none none = some z2 := fun fr hf => by
  have e1 : (if (0 : Int) ≤ (i : Int) + 1 then some ((i : Int) + 1).toNat else none) = some (i + 1) := by rw [if_pos (by omega)]; congr 1
  simp only [rV,show gB q 3 es' = true from h4,if_true,aCS,Opd.ev,hf,bP,e1,bdK_2]
  rw [if_pos ⟨b2,Nat.le_refl _⟩,hz2]; rfl
 obtain ⟨A,hA⟩ : ∃ A,A = (((l.map aD.c).drop 0).take i).flatten := ⟨_,rfl⟩
 obtain ⟨B,hB⟩ : ∃ B,B = (((l.map aD.c).drop (i + 1)).take (l.length - (i + 1))).flatten := ⟨_,rfl⟩
 have hAl : A.length = i * 3 := hA ▸ hlen 0 i (by omega)
 have hBl : B.length = (l.length - (i + 1)) * 3 := hB ▸ hlen (i + 1) _ (by omega)
 have hAo : A.all one = true := hA ▸ hones _ _
 have hBo : B.all one = true := hB ▸ hones _ _
 have hAB : ((l.eraseIdx i).map aD.c).flatten = A ++ B := by rw [herase,List.flatten_append,hA,hB]
 have hel : (l.eraseIdx i).length = l.length - 1 := by rw [List.length_eraseIdx,if_pos hi]
 have e1 : ∃ y1 L1,bT w0 (h ++ []) 3 24 .nilS z1 = some (y1,h ++ L1) ∧ ((i = 0 ∧ y1 = .nilS ∧ L1 = []) ∨ (i ≠ 0 ∧ y1 = .sl (.own h.length 0) i 3 false ∧ L1 = [some (.row A)])) := by
  by_cases h0 : i = 0
  · refine ⟨.nilS,[],?_,.inl ⟨h0,rfl,rfl⟩⟩
    rw [hz1]
    simp only [bT,src [] 0 (i - 0) _ (by omega),Option.bind_some]
    rw [if_pos (by omega)]
  · refine ⟨_,_,?_,.inr ⟨h0,rfl,rfl⟩⟩
    rw [hz1]
    simp only [bT,src [] 0 (i - 0) _ (by omega),Option.bind_some]
    rw [if_neg (by omega),if_pos ⟨by omega,hones _ _⟩,Nat.sub_zero,← hA]
    simp [eD]
 obtain ⟨y1,L1,e1,hy1⟩ := e1
 have sly : ∀ (H : aA) (b : Nat),H[b]? = some (some (.row (A ++ B))) → Sl w0 H 3 (.sl (.own b 0) (l.length - 1) 3 false) ((l.eraseIdx i).map aD.c) := fun H b hb => pJ (k := []) (by rw [List.append_nil,hAB]; exact hb) hel.symm
 have e2 : ∃ y2 H2,bT w0 (h ++ L1) 3 24 y1 z2 = some (y2,H2) ∧ aF h H2 ∧ Sl w0 H2 3 y2 ((l.eraseIdx i).map aD.c) := by
  have hs2 := src L1 (i + 1) (l.length - (i + 1)) (cT none l.length (f && l.length == l.length)) (by omega)
  rw [← hz2] at hs2
  by_cases hm : l.length - (i + 1) = 0
  · have hB0 : B = [] := List.eq_nil_of_length_eq_zero (by rw [hBl,hm])
    rcases hy1 with ⟨h0,rfl,rfl⟩ | ⟨h0,rfl,rfl⟩
    · refine ⟨.nilS,h ++ [],?_,aF.refl.app,.inl ⟨rfl,?_⟩⟩
      · simp only [bT,hs2,Option.bind_some]; rw [if_pos hm]
      · have : (l.eraseIdx i).length = 0 := by omega
        rw [List.eq_nil_of_length_eq_zero this]; rfl
    · refine ⟨.sl (.own h.length 0) i 3 false,h ++ [some (.row A)],?_,aF.refl.app,?_⟩
      · simp only [bT,hs2,Option.bind_some]; rw [if_pos hm]
      · have := sly (h ++ [some (.row A)]) h.length (by rw [qI (Nat.le_refl _),Nat.sub_self,hB0,List.append_nil]; rfl)
        rwa [show l.length - 1 = i by omega] at this
  · rcases hy1 with ⟨h0,rfl,rfl⟩ | ⟨h0,rfl,rfl⟩
    · have hA0 : A = [] := List.eq_nil_of_length_eq_zero (by rw [hAl,h0])
      refine ⟨.sl (.own (h ++ []).length 0) (l.length - (i + 1)) 3 false,(h ++ []) ++ [some (Blk.row B)],?_,?_,?_⟩
      · simp only [bT,hs2,Option.bind_some]
        rw [if_neg hm,if_pos ⟨by omega,hones _ _⟩,← hB]
        rfl
      · exact (aF.refl.app).app
      · have := sly ((h ++ []) ++ [some (Blk.row B)]) (h ++ []).length (by rw [qI (Nat.le_refl _),Nat.sub_self,hA0]; rfl)
        rwa [show l.length - 1 = l.length - (i + 1) by omega] at this
    · have r1 : rdn w0 (h ++ [some (Blk.row A)]) (.own h.length 0) (i * 3) = some A := by
       simp only [rdn]
       rw [qI (Nat.le_refl _),Nat.sub_self]
       simp [hAl,List.take_of_length_le (Nat.le_of_eq hAl)]
      refine ⟨.sl (.own (h ++ [some (Blk.row A)]).length 0) (i + (l.length - (i + 1))) 3 false,((h ++ [some (Blk.row A)]).set h.length none) ++ [some (Blk.row (A ++ B))],?_,?_,?_⟩
      · simp only [bT,hs2,Option.bind_some,dD]
        rw [if_neg hm,if_pos ⟨trivial,by omega,hones _ _⟩]
        simp only [Bool.false_eq_true,if_false,r1,Option.bind_some,← hB]
      · exact ((aF.refl.app).setR (Nat.le_refl _)).app
      · have := sly (((h ++ [some (Blk.row A)]).set h.length none) ++ [some (Blk.row (A ++ B))]) (h ++ [some (Blk.row A)]).length (by rw [qI (by simp)]; simp)
        rwa [show l.length - 1 = i + (l.length - (i + 1)) by omega] at this
 obtain ⟨y2,H2,e2,e3,e4⟩ := e2
 rw [sl1 _ rfl]
 simp only [go_sem,e1]
 refine ⟨(by unfold I64; omega),?_⟩
 rw [sl2 _ rfl]
 simp only [go_sem,e2]
 exact ⟨e3,e4⟩
theorem SlI.getD_at2 {x : AV} {l : List Int} (a : SlI w0 h x l) {j : Nat} (hj : j < l.length) : ∃ p : Pl,eQ 1 x (some j) = some (.ptr p) ∧ (∀ L,rd w0 (h ++ L) p = some (.int .i64 (l.getD j 0))) ∧ rd w0 h p = some (.int .i64 (l.getD j 0)) := by
 obtain ⟨p,a1,a2,a3⟩ := a.at_ hj
 rw [Ab.getD_at hj]; exact ⟨p,a1,a2,a3⟩
theorem oK (o : Option ((Int × Int) × (Int × Int))) : ∃ a b c d : Int,cX o = [.bool o.isNone,.agg [.int .i64 a,.int .i64 b,.int .i64 c,.int .i64 d]] := by
 cases o with
 | none => exact ⟨_,_,_,_,rfl⟩
 | some x => exact ⟨_,_,_,_,rfl⟩
end Go.Proofs.Ab

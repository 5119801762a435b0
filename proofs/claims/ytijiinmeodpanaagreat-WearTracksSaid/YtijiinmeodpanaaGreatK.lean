/- The own layer under the proofs of this seat, part K: what calls of the program come to on an abstract heap. No condition. -/
import Derived.Test.YtijiinmeodpanaaGreatJ
import Derived.Test.YtijiinmeodpanaaGreatProg
import Derived.Shelf.Sort.Plain
import Derived.KernelRfl
import Derived.Test.YtijiinmeodpanaaGreatH
set_option linter.unusedSimpArgs false
set_option linter.unusedVariables false
namespace Go.Proofs.Ab
open Go Go.Proofs
variable {w0 : World} {h : aA}
attribute [local irreducible] ACall bB dH bQ dG rvC lp rg dr ex un rv
theorem aED {H : aA} {m n io k : Nat} {ov : AV} {vs x : List AV} {f : Bool} (hov : n = 0 ∧ ov = .nilS ∧ vs = [] ∨ n ≠ 0 ∧ ov = .sl (.own io 0) n 1 false ∧ H[io]? = some (some (.row vs)) ∧ vs.length = n)
 (hk : H[k]? = some (some (.row x))) (hx : x.length = m) (hm : m ≠ 0) (ho : x.all one = true) (hn : n + m ≤ 1000000000) :
 ∃ G,dR w0 H 1 24 ov (.sl (.own k 0) m 1 f) = some (.sl (.own H.length 0) (n + m) 1 false,G) ∧ ((n = 0 ∧ G = H ++ [some (.row x)]) ∨ (n ≠ 0 ∧ G = H.set io none ++ [some (.row (vs ++ x))])) := by
 have r1 : rdn w0 H (.own k 0) (m * 1) = some x := by
  simp only [rdn,hk]; simp [hx]; rw [← hx]; simp
 rcases hov with ⟨h1,h2,h3⟩ | ⟨h1,h2,h3,h4⟩
 · subst h1; subst h2; subst h3
   refine ⟨_,?_,.inl ⟨rfl,rfl⟩⟩
   simp only [dR,fJ,jP,if_true,r1,Option.map_some,Option.bind_some]
   rw [if_neg hm,if_pos ⟨by omega,ho⟩]
   simp [eO]
 · have hlt := aP h3
   have r2 : rdn w0 H (.own io 0) (n * 1) = some vs := by
    simp only [rdn,h3]; simp [h4]; rw [← h4]; simp
   refine ⟨_,?_,.inr ⟨h1,rfl⟩⟩
   rw [h2]
   simp only [dR,fJ,jP,if_true,r1,Option.map_some,Option.bind_some]
   rw [if_neg hm,if_pos ⟨trivial,by omega,ho⟩]
   simp only [Bool.false_eq_true,if_false,r2,Option.bind_some]
structure Rows (h H : aA) (ov : AV) (so : Nat) (c : List AV) (g : List (List Int)) : Prop where
 sub : aG h H
 val : ov = slG so g.length
 lst : g ≠ [] → h.length ≤ so ∧ H[so]? = some (some (.row c))
 len : c.length = g.length
 own : ∀ (j : Nat) x,g[j]? = some x → ∃ y,c[j]? = some y ∧ iN h H y x
 dis : ∀ (i j b n n' : Nat) (f f' : Bool),c[i]? = some (.sl (.own b 0) n 1 f) → c[j]? = some (.sl (.own b 0) n' 1 f') → i = j
section
variable {H H' : aA} {ov : AV} {so : Nat} {c : List AV} {g : List (List Int)}
theorem Rows.nil (s : aG h H) : Rows h H .nilS 0 [] [] := ⟨s,rfl,fun e => absurd rfl e,rfl,fun j x e => by simp at e,fun i j b n n' f f' e => by simp at e⟩
theorem iN.to {y : AV} {x : List Int} (a : iN h H y x) (s : ∀ b : Nat,H[b]? = some (some (.row (bI x))) → y ≠ .nilS → H'[b]? = some (some (.row (bI x)))) : iN h H' y x := by
 rcases a with a | ⟨b,f,e1,e2,e3⟩
 · exact .inl a
 · exact .inr ⟨b,f,e1,e2,s b e3 (by rw [e1]; simp)⟩
theorem Rows.to (a : Rows h H ov so c g) (s : aG H H') : Rows h H' ov so c g :=
 ⟨a.sub.trans s,a.val,fun e => ⟨(a.lst e).1,s.2 _ _ (a.lst e).2⟩,a.len,fun j x hx => by
  obtain ⟨y,h1,h2⟩ := a.own j x hx
  exact ⟨y,h1,iN.to h2 fun b e _ => s.2 _ _ e⟩,a.dis⟩
theorem Rows.row (a : Rows h H ov so c g) {k : Nat} {x : List Int} (hk : g[k]? = some x) : ∃ y,c[k]? = some y ∧ SlO w0 H y x ∧ Ab.one y = true ∧ cellsOf y = some [y] ∧ (x ≠ [] → ∃ b f,y = .sl (.own b 0) x.length 1 f ∧ h.length ≤ b ∧ H[b]? = some (some (.row (bI x)))) := by
 obtain ⟨y,h1,h2⟩ := a.own k x hk
 refine ⟨y,h1,h2.slo,h2.one.1,h2.one.2,fun hx => ?_⟩
 rcases h2 with ⟨e,_⟩ | ⟨b,f,e1,e2,e3⟩
 · exact absurd e hx
 · exact ⟨b,f,e1,e2,e3⟩
theorem Rows.nso (a : Rows h H ov so c g) {j b : Nat} {x : List Int} {n : Nat} {f : Bool} (hj : c[j]? = some (.sl (.own b 0) n 1 f)) (hb : H[b]? = some (some (.row (bI x)))) : b ≠ so := fun e => by
 have hc := aP hj
 rw [a.len] at hc
 have hg : g ≠ [] := fun q => by rw [q] at hc; simp at hc
 have := (a.lst hg).2
 rw [← e,hb] at this
 simp only [Option.some.injEq,Blk.row.injEq] at this
 rw [← this] at hj
 exact pV (List.mem_of_getElem? hj)
theorem Rows.put (a : Rows h H ov so c g) {k b : Nat} {x x' : List Int} {f : Bool} (hk : g[k]? = some x) (hc : c[k]? = some (.sl (.own b 0) x.length 1 f)) (hb : H[b]? = some (some (.row (bI x)))) (hl : h.length ≤ b) (hx : x'.length = x.length) :
 Rows h (H.set b (some (.row (bI x')))) ov so c (g.set k x') := by
 have hkl := aP hk
 have hbl := aP hb
 have hg : g ≠ [] := fun e => by rw [e] at hkl; simp at hkl
 have ns := a.nso hc hb
 refine ⟨a.sub.setR hl,by rw [List.length_set]; exact a.val,fun _ => ⟨(a.lst hg).1,by rw [qB ns]; exact (a.lst hg).2⟩,by rw [List.length_set]; exact a.len,fun j y hy => ?_,a.dis⟩
 by_cases e : k = j
 · subst e
   rw [qF hkl] at hy
   cases hy
   exact ⟨_,hc,.inr ⟨b,f,by rw [hx],hl,qF hbl⟩⟩
 · rw [qB e] at hy
   obtain ⟨z,h1,h2⟩ := a.own j y hy
   refine ⟨z,h1,?_⟩
   rcases h2 with h2 | ⟨b',f',e1,e2,e3⟩
   · exact .inl h2
   · refine .inr ⟨b',f',e1,e2,?_⟩
     rw [qB]
     · exact e3
     · intro q
       subst q
       rw [e1] at h1
       exact e (a.dis _ _ _ _ _ _ _ hc h1)
theorem Rows.push {H0 : aA} (a : Rows h H0 ov so c g) (s : aG H0 H) {y : AV} {x : List Int} {k : Nat} {f : Bool} (oy : iN H0 H y x) (hk : H[k]? = some (some (.row [y]))) (hn : g.length ≤ 1000000) :
 ∃ G,dR w0 H 1 24 ov (.sl (.own k 0) 1 1 f) = some (.sl (.own H.length 0) (g.length + 1) 1 false,G) ∧ Rows h G (.sl (.own H.length 0) (g.length + 1) 1 false) H.length (c ++ [y]) (g ++ [x]) ∧ (∀ i b,(g ≠ [] → i ≠ so) → H[i]? = some (some b) → G[i]? = some (some b)) ∧ H.length < G.length := by
 have b1 := a.to s
 have hov : g.length = 0 ∧ ov = .nilS ∧ c = [] ∨ g.length ≠ 0 ∧ ov = .sl (.own so 0) g.length 1 false ∧ H[so]? = some (some (.row c)) ∧ c.length = g.length := by
  by_cases hg : g = []
  · subst hg
    exact .inl ⟨rfl,b1.val,List.length_eq_zero_iff.1 b1.len⟩
  · have hl : g.length ≠ 0 := fun e => hg (List.eq_nil_of_length_eq_zero e)
    exact .inr ⟨hl,by rw [b1.val,slG,if_neg hl],(b1.lst hg).2,b1.len⟩
 obtain ⟨G,g1,g2⟩ := aED (w0 := w0) (f := f) hov hk (m := 1) rfl (by omega) (by simp [oy.one.1]) (by omega)
 have kp : ∀ i b,(g ≠ [] → i ≠ so) → H[i]? = some (some b) → G[i]? = some (some b) := fun i b hi e => by
  rcases g2 with ⟨_,rfl⟩ | ⟨hl,rfl⟩
  · exact aE e
  · refine aE ?_
    rw [qB (fun q => hi (fun e => hl (by rw [e]; rfl)) q.symm)]; exact e
 have hlast : G[H.length]? = some (some (.row (c ++ [y]))) := by
  rcases g2 with ⟨hl,rfl⟩ | ⟨hl,rfl⟩
  · have : c = [] := List.length_eq_zero_iff.1 (by rw [b1.len]; exact hl)
    rw [this,qI (Nat.le_refl _),Nat.sub_self]; rfl
  · rw [qI (by simp)]; simp
 have hlt := aP hlast
 refine ⟨G,g1,⟨?_,by simp [slG],fun _ => ⟨b1.sub.1,hlast⟩,by simp [b1.len],fun j z hz => ?_,fun i j b n n' f f' e1 e2 => ?_⟩,kp,hlt⟩
 · refine ⟨by have := b1.sub.1; omega,fun i b e => kp i b (fun hg q => ?_) (b1.sub.2 i b e)⟩
   have := (b1.lst hg).1
   have := aP e
   omega
 · by_cases hj : j < g.length
   · rw [qH hj] at hz
     obtain ⟨u,h1,h2⟩ := b1.own j z hz
     refine ⟨u,by rw [qH (by rw [b1.len]; exact hj)]; exact h1,?_⟩
     rcases h2 with h2 | ⟨b,f',e1,e2,e3⟩
     · exact .inl h2
     · rw [e1] at h1
       exact .inr ⟨b,f',e1,e2,kp b _ (fun _ => b1.nso h1 e3) e3⟩
   · obtain rfl : j = g.length := by have := aP hz; simp at this; omega
     rw [qI (Nat.le_refl _),Nat.sub_self] at hz
     cases hz
     refine ⟨y,by rw [qI (by rw [b1.len]; omega),b1.len,Nat.sub_self]; rfl,?_⟩
     rcases oy with h2 | ⟨b,f',e1,e2,e3⟩
     · exact .inl h2
     · refine .inr ⟨b,f',e1,by have := a.sub.1; omega,kp b _ (fun hg q => ?_) e3⟩
       have := aP (a.lst hg).2
       omega
 · have hlen := b1.len
   have old : ∀ {i b n f},i < c.length → (c ++ [y])[i]? = some (.sl (.own b 0) n 1 f) → b < H0.length := fun {i b n f} hi e => by
    rw [qH hi] at e
    obtain ⟨z,hz⟩ : ∃ z,g[i]? = some z := ⟨_,qA (by rw [← hlen]; exact hi)⟩
    obtain ⟨u,h1,h2⟩ := a.own i z hz
    rw [h1] at e
    cases e
    rcases h2 with ⟨_,h2⟩ | ⟨b',f',e1,e2,e3⟩
    · cases h2
    · cases e1; exact aP e3
   have new : ∀ {i b n f},¬ i < c.length → (c ++ [y])[i]? = some (.sl (.own b 0) n 1 f) → H0.length ≤ b ∧ i = c.length := fun {i b n f} hi e => by
    have hil := aP e
    rw [List.length_append,List.length_singleton] at hil
    obtain rfl : i = c.length := by omega
    rw [qI (Nat.le_refl _),Nat.sub_self] at e
    cases e
    rcases oy with ⟨_,h2⟩ | ⟨b',f',q1,q2,q3⟩
    · cases h2
    · cases q1; exact ⟨q2,rfl⟩
   by_cases hi : i < c.length
   · by_cases hj : j < c.length
     · rw [qH hi] at e1
       rw [qH hj] at e2
       exact a.dis _ _ _ _ _ _ _ e1 e2
     · have := old hi e1
       have := (new hj e2).1
       omega
   · by_cases hj : j < c.length
     · have := old hj e2
       have := (new hi e1).1
       omega
     · rw [(new hi e1).2,(new hj e2).2]
end
theorem aCQ {H : aA} {v : AV} {x : List Int} (s : SlO w0 H v x) (hn : x.length ≤ 1000) : ∃ y H1,dR w0 H 1 8 .nilS v = some (y,H1) ∧ aG H H1 ∧ iN H H1 y x := by
 by_cases hx : x = []
 · subst hx
   refine ⟨.nilS,H,?_,aG.refl,.inl ⟨rfl,rfl⟩⟩
   simp only [dR,s.e rfl,Option.bind_some]
   rfl
 · have := aEE (w0 := w0) (b := 8) s.s (by simpa using hx) (by simp [Ab.one]) (by omega) (by simp; omega)
   rw [← kD,List.length_map] at this
   exact ⟨_,_,this,aG.refl.app,.inr ⟨H.length,false,rfl,Nat.le_refl _,by simp⟩⟩
structure sD (l : List aH) (s : aM) : Prop where
 t0 : 0 ≤ s.tail
 t1 : s.tail < l.length
 s0 : 0 ≤ s.slot
 s1 : s.slot < (l.getD s.tail.toNat rX).ser.length
theorem sD.of {l : List aH} {s : aM} (h : iC l s = true) : sD l s := by
 simp only [iC,Bool.and_eq_true,iX] at h
 exact ⟨h.1.1,by omega,h.2.1.1,by omega⟩
def dE (l : List aH) (g : List (List Int)) : Prop := g.map List.length = l.map fun t => t.ser.length
theorem dE.len {l : List aH} {g : List (List Int)} (s : dE l g) : g.length = l.length := by have := congrArg List.length s; simpa using this
theorem dE.at_ {l : List aH} {g : List (List Int)} (s : dE l g) {k : Nat} (hk : k < g.length) : g[k].length = (l.getD k rX).ser.length := by
 have hl : k < l.length := by rw [← s.len]; exact hk
 have e := congrArg (fun x => x[k]?) s
 simp only [List.getElem?_map,qA hk,qA hl,Option.map_some,Option.some.injEq] at e
 rw [aS hl]; exact e
theorem dE.put {l : List aH} {g : List (List Int)} (s : dE l g) (x : aM) : dE l (lK g x) := by unfold dE; rw [aFH]; exact s
theorem dE.start (l : List aH) : dE l (l.map aH.ser) := by simp [dE]
theorem dE.short {l : List aH} {g : List (List Int)} (s : dE l g) (hs : jD l) : ∀ x ∈ g,x.length ≤ 1000 := fun x hx => by
 obtain ⟨k,hk,rfl⟩ := List.getElem_of_mem hx
 rw [s.at_ hk]
 have hl : k < l.length := by rw [← s.len]; exact hk
 rw [aS hl]
 exact (hs.2 _ (qG hl)).2
theorem iP {so n : Nat} : oL (slG so n) = some (.int .i64 n) ∧ ∀ j,j < n → fX 1 (slG so n) (some j) = some (.ptr (.own so j)) := by
 by_cases hn : n = 0
 · subst hn; exact ⟨rfl,fun j hj => by omega⟩
 · rw [slG,if_neg hn]; exact ⟨rfl,fun j hj => nN hj⟩
def SlotsK (h : aA) (o : Option (List (List Int))) (y : AV) (H : aA) : Prop := match o with
 | none => y = .tup [.nilS,.bool false] ∧ aG h H
 | some g => ∃ ov so c,y = .tup [ov,.bool true] ∧ Rows h H ov so c g
set_option maxRecDepth 20000 in
theorem qM {v sv : AV} {l : List aH} {sw : List aM} (d : Int) (hv : dF w0 h v l) (hw : eD w0 h sv sw) (hs : jD l) (hn : sw.length ≤ 1000) (hok : ∀ s ∈ sw,sD l s) : ACall Tryz.prog w0 33 [v,sv,.int .i64 d] h (SlotsK h (eX l sw d)) := by
 refine bZ aQ aGx mf33_b mf33_g (qE rfl) fun hb ha => bV ?_
 have hlen := hv.len
 have hlw := hw.len
 have hll := hs.1
 simp only [go_sem,mf33]
 refine dB (S := aA × AV × Nat × List AV) (fun j s => [(0,v),(1,sv),(2,.int .i64 d),(8,s.2.1),(9,.int .i64 j)]) (fun _ s => s.1) (fun j s => Rows h s.1 s.2.1 s.2.2.1 s.2.2.2 ((l.take j).map aH.ser)) l.length (h,.nilS,0,[]) (by simpa using Rows.nil aG.refl) rfl (List.append_nil h) ?_ ?_
 · rintro j ⟨H,ov,so,c⟩ hj R ih
   simp only at R ih ⊢
   refine aJ aQ aBO [0,1,2,8,9] L33_0.eq_1 ?_
   have e1 : (j : Int) < l.length := by omega
   obtain ⟨p,dv,tv,i1,r1,ra,rb,hd,hsv⟩ := hv.at_ hj
   have rb' := R.sub.rd (fT rb)
   obtain ⟨t,ht⟩ : ∃ t,t = l[j] := ⟨_,rfl⟩
   have htm := hs.2 t (ht ▸ qG hj)
   rw [← ht] at hsv
   obtain ⟨y,H1,ap,s1,oy⟩ := aCQ (hsv.sub R.sub) htm.2
   have o1 := oy.one
   have oy' : iN H (H1 ++ [some (Blk.row [y])]) y t.ser := oy.to fun b e _ => aE e
   have hk : (H1 ++ [some (Blk.row [y])])[H1.length]? = some (some (.row [y])) := by rw [qI (Nat.le_refl _),Nat.sub_self]; rfl
   obtain ⟨G,ap2,R2,_,_⟩ := R.push (w0 := w0) (f := true) s1.app oy' hk (by simp; omega)
   have hlg : (List.map aH.ser (List.take j l)).length = j := by simp; omega
   rw [hlg] at ap2 R2
   have hgl : (H1 ++ [some (Blk.row [y])]).length = H1.length + 1 := by simp
   rw [hgl] at ap2 R2
   simp only [go_sem,e1,hlen,i1,rb',ap,o1.1,o1.2,ap2]
   refine ⟨(by unfold I64; omega),ih (G,.sl (.own (H1.length + 1) 0) (j + 1) 1 false,H1.length + 1,c ++ [y]) ?_⟩
   have : (l.take (j + 1)).map aH.ser = (l.take j).map aH.ser ++ [t.ser] := by rw [List.take_succ_eq_append_getElem hj,List.map_append,← ht]; rfl
   simp only
   rw [this]
   exact R2
 · rintro ⟨H,ov,so,c⟩ R
   simp only at R ⊢
   rw [List.take_length] at R
   refine aJ aQ aBO [0,1,2,8,9] L33_0.eq_1 ?_
   have e1 : ¬ (l.length : Int) < l.length := by omega
   simp only [go_sem,e1,hlen]
   refine dB (S := aA × List (List Int)) (fun j _ => [(1,sv),(2,.int .i64 d),(8,ov),(10,.int .i64 j)]) (fun _ s => s.1) (fun j s => Rows h s.1 ov so c s.2 ∧ dE l s.2 ∧ goF s.2 ((sw.drop j).filter fun s => decide (s.night < d)) = eX l sw d) sw.length (H,l.map aH.ser) ⟨R,dE.start l,rfl⟩ rfl rfl ?_ ?_
   · rintro j ⟨H,g⟩ hj ⟨R,sh,q⟩ ih
     simp only at R sh q ih ⊢
     refine aJ aQ aBM [1,2,8,10] L33_2.eq_1 ?_
     have e2 : (j : Int) < sw.length := by omega
     obtain ⟨p,i1,_,r1⟩ := hw.at_ hj
     have r1' := R.sub.rdn r1
     obtain ⟨s,hsw⟩ : ∃ s,s = sw[j] := ⟨_,rfl⟩
     rw [← hsw] at r1'
     have k := hok s (hsw ▸ qG hj)
     rw [List.drop_eq_getElem_cons hj,← hsw] at q
     have bx : ∀ L,((H ++ some (Blk.row s.c) :: L) : aA)[H.length]? = some (some (.row s.c)) := fun L => by rw [qI (Nat.le_refl _),Nat.sub_self]; rfl
     have R1 := R.to (aG.refl.app (L := [some (Blk.row s.c)]))
     by_cases hnd : s.night < d
     · rw [List.filter_cons_of_pos (by simpa using hnd),goF] at q
       have hnd' : ¬ d ≤ s.night := by omega
       simp only [go_sem,e2,hlw,i1,r1',bx,hnd']
       obtain ⟨H1,eH1⟩ : ∃ H1,H1 = H ++ [some (Blk.row s.c)] := ⟨_,rfl⟩
       have bx1 : H1[H.length]? = some (some (.row s.c)) := by rw [eH1]; exact bx []
       have bx1' : ∀ L,(H1 ++ L)[H.length]? = some (some (.row s.c)) := fun L => aE bx1
       have eH1' : H ++ [some (Blk.row [AV.int IntKind.i64 s.night,AV.int IntKind.i64 s.tail,AV.int IntKind.i64 s.slot,AV.int IntKind.i64 s.serial])] = H1 := eH1.symm
       rw [← eH1] at R1
       rw [eH1']
       have gl : g.length = l.length := sh.len
       refine hO (fun t => [(1,sv),(2,.int .i64 d),(8,ov),(10,.int .i64 j),(11,.ptr (.own H.length 0)),(12,.int .i64 t)]) (fun t => s.serial < 0 ∨ s.serial ∉ g.getD t []) g.length rfl (fun t ht hall it => ?_) (fun hall => ?_)
       · refine aJ aQ aBN [1,2,8,10,11,12] L33_1.eq_1 ?_
         have e3 : (t : Int) < g.length := by omega
         have hg : g ≠ [] := fun e => by rw [e] at ht; simp at ht
         obtain ⟨y,hy,ys,_,_,_⟩ := R1.row (w0 := w0) (qA ht)
         have u1 := (iP (so := so) (n := g.length)).1
         have u2 := (iP (so := so) (n := g.length)).2 t ht
         rw [← R1.val] at u1 u2
         have sx := (R1.lst hg).2
         have gj : g.getD t [] = g[t] := aS ht
         rw [gj] at it
         have gtl := sh.short hs _ (qG ht)
         by_cases h0 : 0 ≤ s.serial
         · simp only [go_sem,e3,u1,u2,sx,hy,bx1,h0]
           refine aO (uK s.serial ys.s (by omega)).v ?_
           by_cases hm : s.serial ∈ g[t]
           · rw [decide_eq_true hm]
             simp only [go_sem]
             have no : fW g s = false := by
              rw [fW,decide_eq_false (by omega),Bool.false_or,List.all_eq_false]
              exact ⟨g[t],qG ht,by simpa using hm⟩
             rw [no] at q
             rw [← q]
             exact ⟨rfl,R1.sub⟩
           · rw [decide_eq_false hm]
             simp only [go_sem]
             exact ⟨(by unfold I64; omega),it (.inr hm)⟩
         · simp only [go_sem,e3,u1,u2,sx,hy,bx1,h0]
           exact ⟨(by unfold I64; omega),it (.inl (by omega))⟩
       · refine aJ aQ aBN [1,2,8,10,11,12] L33_1.eq_1 ?_
         have e3 : ¬ (g.length : Int) < g.length := by omega
         have u1 := (iP (so := so) (n := g.length)).1
         obtain ⟨kt,hkt⟩ : ∃ n : Nat,s.tail = n := ⟨s.tail.toNat,by have := k.t0; omega⟩
         obtain ⟨ks,hks⟩ : ∃ n : Nat,s.slot = n := ⟨s.slot.toNat,by have := k.s0; omega⟩
         have ktl : kt < g.length := by have := k.t1; omega
         have hg : g ≠ [] := fun e => by rw [e] at ktl; simp at ktl
         obtain ⟨x,hx⟩ : ∃ x,x = g[kt] := ⟨_,rfl⟩
         have hgx : g[kt]? = some x := by rw [hx]; exact qA ktl
         have ksl : ks < x.length := by
          have := k.s1
          rw [hkt,Int.toNat_natCast,← sh.at_ ktl,← hx] at this
          omega
         obtain ⟨y,hy,ys,yo,yc,hy2⟩ := R1.row (w0 := w0) hgx
         obtain ⟨b,f,rfl,hbl,hbb⟩ := hy2 (fun e => by rw [e] at ksl; simp at ksl)
         have u2 := (iP (so := so) (n := g.length)).2 kt ktl
         rw [← R1.val] at u1 u2
         have sx := (R1.lst hg).2
         have i2 := nN (b := b) (f := f) ksl
         have il : (bI x).length = x.length := by simp [bI]
         have ok : fW g s = true := by
          rw [fW]
          by_cases h0 : s.serial < 0
          · rw [decide_eq_true h0]; rfl
          · rw [decide_eq_false h0,Bool.false_or,List.all_eq_true]
            intro z hz
            obtain ⟨i,hi,rfl⟩ := List.getElem_of_mem hz
            have := hall i hi
            rw [aS hi] at this
            simpa [h0] using this
         rw [ok] at q
         simp only [go_sem,e3,u1,u2,sx,hy,bx1,hkt,hks,i2,hbb,il]
         refine ⟨by omega,(by unfold I64; omega),?_⟩
         have hsp : (bI x).take ks ++ AV.int .i64 s.serial :: (bI x).drop (ks + 1) = bI (x.set ks s.serial) := by rw [← aDt ksl,sJ]; rfl
         rw [hsp]
         have R2 := R1.put (x' := x.set ks s.serial) hgx hy hbb hbl (List.length_set ..)
         refine ih (H1.set b (some (.row (bI (x.set ks s.serial)))),lK g s) ⟨?_,sh.put s,by simpa using q⟩
         rw [lK,hkt,hks,Int.toNat_natCast,Int.toNat_natCast,aS ktl,← hx]
         exact R2
     · rw [List.filter_cons_of_neg (by simpa using hnd)] at q
       have hnd' : d ≤ s.night := by omega
       simp only [go_sem,e2,hlw,i1,r1',bx,hnd']
       exact ⟨(by unfold I64; omega),ih (_,g) ⟨R1,sh,q⟩⟩
   · rintro ⟨H,g⟩ ⟨R,sh,q⟩
     simp only at R sh q ⊢
     refine aJ aQ aBM [1,2,8,10] L33_2.eq_1 ?_
     have e2 : ¬ (sw.length : Int) < sw.length := by omega
     rw [List.drop_length,List.filter_nil,goF] at q
     simp only [go_sem,e2,hlw]
     rw [← q]
     exact ⟨ov,so,c,rfl,R⟩
def gD (l : List aH) (sw : List aM) (e : Nat) : List (List Int) := (eX l sw (e : Int)).getD []
def iF (l : List aH) (sw : List aM) (n : Int) (d : Nat) : List bW := (List.range d).flatMap fun e => cS l (gD l sw e) e n
def kZ (l : List aH) (sw : List aM) (n : Int) : aB := (iF l sw n (bD l)).foldl oP (zT n)
def isK (l : List aH) (sw : List aM) (n : Int) : Bool := (sw.any fun s => decide (s.serial = n)) || l.any fun t => decide (n ∈ t.ser)
def eG (l : List aH) (sw : List aM) (k : Nat) : List Int := ((List.range k).map fun i : Nat => (i : Int)).filter (isK l sw)
def iO (l : List aH) (sw : List aM) : Option (List aB) := (eX l sw (bD l)).map fun _ => (eG l sw 1001).map (kZ l sw)
theorem xX {l : List aH} {g : List (List Int)} {x : List Int} {d : Nat} {n : Int} : cS l (g ++ [x]) d n = cS l g d n ++ if n ∈ x then [dS l g.length d] else [] := by
 rw [cS,cS,List.zipIdx_append,List.flatMap_append]
 simp
theorem rH {l : List aH} {g : List (List Int)} {d : Nat} {n : Int} : (cS l g d n).length ≤ g.length := by
 have : ∀ k,((g.zipIdx k).flatMap (fun p => if n ∈ p.1 then [dS l p.2 d] else [])).length ≤ g.length := by
  induction g with
  | nil => intro k; simp
  | cons a g ih =>
   intro k
   rw [List.zipIdx_cons,List.flatMap_cons,List.length_append,List.length_cons]
   have := ih (k + 1)
   split
   · simp only [List.length_singleton]; omega
   · simp only [List.length_nil]; omega
 exact this 0
theorem rA {l : List aH} : ∀ {sw : List aM} {f g : List (List Int)},dE l f → goF f sw = some g → dE l g
 | [],f,g,s,e => by cases e; exact s
 | x :: sw,f,g,s,e => by
  rw [goF] at e
  split at e
  · exact rA (s.put x) e
  · cases e
theorem aAh {l : List aH} {sw : List aM} {e : Nat} : (gD l sw e).length ≤ l.length := by
 rw [gD]
 cases q : eX l sw e with
 | none => simp
 | some g => exact Nat.le_of_eq (rA (dE.start l) q).len
theorem qR {l : List aH} {sw : List aM} {n : Int} : ∀ d,(iF l sw n d).length ≤ d * l.length
 | 0 => by simp [iF]
 | d + 1 => by
  have h1 := qR (l := l) (sw := sw) (n := n) d
  have h2 := @rH l (gD l sw d) d n
  have h3 := @aAh l sw d
  rw [iF,List.range_succ,List.flatMap_append,List.length_append,Nat.succ_mul]
  have h4 : (List.flatMap (fun e => cS l (gD l sw e) e n) (List.range d)).length = (iF l sw n d).length := rfl
  rw [h4]
  simp only [List.flatMap_cons,List.flatMap_nil,List.append_nil]
  omega
theorem sF : ∀ {l : List aH} {n0 : Nat} {acc : List Int},fR n0 acc l = true → ∀ t ∈ l,fI n0 t = true
 | [],_,_,_,t,ht => by cases ht
 | x :: l,n0,acc,h,t,ht => by
  simp only [fR,Bool.and_eq_true] at h
  rcases List.mem_cons.1 ht with rfl | ht
  · exact h.1
  · exact sF h.2.2 t ht
structure TOK (l : List aH) : Prop where
 n : l.length ≤ 4
 e : fS l = true
theorem TOK.day {l : List aH} (k : TOK l) {t : aH} (ht : t ∈ l) : t.days.length = bD l ∧ bD l ≤ 30 ∧ t.ser.length ≤ 5 ∧ t.days.all dJ = true := by
 have := sF k.e t ht
 simp only [fI,Bool.and_eq_true,decide_eq_true_eq] at this
 exact ⟨this.1.1,by omega,this.1.2.2,this.2⟩
theorem TOK.short {l : List aH} (k : TOK l) : jD l := ⟨by have := k.n; omega,fun t ht => by have := k.day ht; omega⟩
theorem TOK.d {l : List aH} (k : TOK l) : bD l ≤ 30 := by
 cases l with
 | nil => simp [bD,rX]
 | cons t l => exact (k.day (t := t) (by simp)).2.1
theorem TOK.use {l : List aH} (k : TOK l) {i d : Nat} (hi : i < l.length) (hd : d < bD l) : dJ (dS l i d) = true := by
 have h := k.day (qG hi)
 rw [dS,aS hi,aS (by omega)]
 exact List.all_eq_true.1 h.2.2.2 _ (qG _)
theorem rG {l : List aH} (k : TOK l) {g : List (List Int)} (hg : g.length ≤ l.length) {d : Nat} (hd : d < bD l) {n : Int} : ∀ u ∈ cS l g d n,dJ u = true := fun u hu => by
 obtain ⟨p,hp,hu⟩ := List.mem_flatMap.1 hu
 split at hu
 · rw [List.mem_singleton] at hu
   subst hu
   have := List.snd_lt_of_mem_zipIdx hp
   exact k.use (by omega) hd
 · cases hu
theorem wX {l : List aH} (k : TOK l) {sw : List aM} {n : Int} {d : Nat} (hd : d ≤ bD l) : ∀ u ∈ iF l sw n d,dJ u = true := fun u hu => by
 obtain ⟨e,he,hu⟩ := List.mem_flatMap.1 hu
 have := List.mem_range.1 he
 exact rG k aAh (by omega) u hu
theorem kB {l : List aH} {sw : List aM} {n : Int} {d : Nat} : iF l sw n (d + 1) = iF l sw n d ++ cS l (gD l sw d) d n := by
 rw [iF,List.range_succ,List.flatMap_append]; simp [iF]
theorem aDk {l : List aH} (k : TOK l) {sw : List aM} {n : Int} {d t : Nat} (hd : d < bD l) : BdT (((iF l sw n d).length + (cS l ((gD l sw d).take t) d n).length : Nat) : Int) ((iF l sw n d ++ cS l ((gD l sw d).take t) d n).foldl oP (zT n)) ∧ (iF l sw n d).length + (cS l ((gD l sw d).take t) d n).length ≤ 200 := by
 have h1 := @qR l sw n d
 have h2 := @rH l ((gD l sw d).take t) d n
 have h3 := @aAh l sw d
 have h4 := k.n
 have h5 := k.d
 have h6 : d * l.length ≤ 30 * 4 := Nat.mul_le_mul (by omega) h4
 rw [List.length_take] at h2
 have hb : (iF l sw n d).length + (cS l ((gD l sw d).take t) d n).length ≤ 200 := by omega
 refine ⟨?_,hb⟩
 have := (uX (n := n) (us := iF l sw n d ++ cS l ((gD l sw d).take t) d n) (x := zT n) (k := 0) (by simp [BdT,zT]) (by omega) (by simp only [List.length_append]; omega) fun u hu => by
  rcases List.mem_append.1 hu with hu | hu
  · exact wX k (by omega) u hu
  · exact rG k (by rw [List.length_take]; omega) hd u hu).2
 rw [List.length_append,Int.zero_add] at this
 exact this
theorem Rows.other {H : aA} {ov : AV} {so i : Nat} {c : List AV} {g : List (List Int)} {r : Option Blk} (a : Rows h H ov so c g) (hi : i < h.length) : Rows (h.set i none) (H.set i r) ov so c g := by
 have hl : (h.set i none).length = h.length := List.length_set
 refine ⟨⟨by rw [hl,List.length_set]; exact a.sub.1,fun j b e => ?_⟩,a.val,fun e => ⟨by rw [hl]; exact (a.lst e).1,?_⟩,a.len,fun j x hx => ?_,a.dis⟩
 · by_cases q : i = j
   · subst q; rw [qF hi] at e; cases e
   · rw [qB q] at e ⊢; exact a.sub.2 j b e
 · rw [qB (by have := (a.lst e).1; omega)]; exact (a.lst e).2
 · obtain ⟨y,h1,h2⟩ := a.own j x hx
   refine ⟨y,h1,?_⟩
   rcases h2 with h2 | ⟨b,f,e1,e2,e3⟩
   · exact .inl h2
   · exact .inr ⟨b,f,e1,by rw [hl]; exact e2,by rw [qB (by omega)]; exact e3⟩
theorem Rows.setB {H : aA} {ov : AV} {so i : Nat} {c : List AV} {g : List (List Int)} {r : Option Blk} (a : Rows (h.set i none) H ov so c g) (hi : i < h.length) : Rows (h.set i none) (H.set i r) ov so c g := by
 have := a.other (i := i) (r := r) (by simpa using hi)
 rwa [List.set_set] at this
def aAz (w0 : World) (h : aA) (o : Option (List aB)) (y : AV) (H : aA) : Prop := match o with
 | none => y = .tup [.nilS,.bool false] ∧ aG h H
 | some ts => ∃ ov,y = .tup [ov,.bool true] ∧ aG h H ∧ Sl w0 H 6 ov (ts.map aB.c)
theorem yO {α : Type} {p : α → Bool} {l : List α} {j : Nat} (hj : j < l.length) : (l.take (j + 1)).any p = ((l.take j).any p || p l[j]) := by
 rw [List.take_succ_eq_append_getElem hj,List.any_append]; simp
theorem qU {l : List aH} {sw : List aM} {n : Nat} : eG l sw (n + 1) = eG l sw n ++ if isK l sw n then [(n : Int)] else [] := by
 rw [eG,List.range_succ,List.map_append,List.filter_append]
 simp only [List.map_cons,List.map_nil,List.filter_cons,List.filter_nil]
 rfl
def rowT (n : Int) : List AV := [.int .i64 n,.int .i64 0,.int .i64 0,.int .i64 0,.int .i64 0,.int .i64 0]
set_option maxRecDepth 20000 in
theorem zQ {v sv : AV} (hv : dF w0 h v []) (hw : eD w0 h sv []) : ACall Tryz.prog w0 9 [v,sv] h (aAz w0 h (some [])) := by
 refine bZ aQ aD1 mf9_b mf9_g (qE rfl) fun hb ha => bV ?_
 have hlen : oL v = some (.int .i64 0) := hv.len
 have hlw : oL sv = some (.int .i64 0) := hw.len
 rw [List.append_nil]
 simp only [go_sem,mf9,hlen]
 refine bX (ACall.vc (first := []) (args := [_,_,_]) (qM (l := []) (sw := []) 0 hv hw ⟨by simp,by simp⟩ (by simp) (by simp))) ?_
 rintro y H0 ⟨ov,so,c,rfl,R⟩
 simp only [go_sem]
 refine dB (S := aA) (fun n _ => [(0,v),(1,sv),(6,.int .i64 0),(9,.nilS),(10,.int .i64 n)]) (fun _ H => H) (fun _ H => aG h H) 1001 H0 R.sub rfl rfl ?_ ?_
 · intro n H hn1 hH ih
   refine aJ aQ vL [0,1,6,9,10] L9_4.eq_1 ?_
   have e1 : (n : Int) ≤ 1000 := by omega
   simp only [go_sem,e1]
   refine aJ aQ aAF [0,1,6,9,10,11,12,13] L9_0.eq_1 ?_
   simp only [go_sem,hlw]
   refine aJ aQ aAE [0,1,6,9,10,11,12,14] L9_1.eq_1 ?_
   simp only [go_sem,hlen]
   exact ⟨(by unfold I64; omega),ih _ hH.app⟩
 · intro H hH
   refine aJ aQ vL [0,1,6,9,10] L9_4.eq_1 ?_
   have e1 : ¬ ((1001 : Nat) : Int) ≤ 1000 := by omega
   simp only [go_sem,e1]
   exact ⟨.nilS,rfl,hH,.inl ⟨rfl,rfl⟩⟩
set_option maxRecDepth 20000 in
theorem aDO {v sv : AV} {l : List aH} {sw : List aM} (hv : dF w0 h v l) (hw : eD w0 h sv sw) (k : TOK l) (hn : sw.length ≤ 1000) (hok : ∀ s ∈ sw,sD l s) (hl0 : l ≠ []) : ACall Tryz.prog w0 9 [v,sv] h (aAz w0 h (iO l sw)) := by
 refine bZ aQ aD1 mf9_b mf9_g (qE rfl) fun hb ha => bV ?_
 have hlen := hv.len
 have hlw := hw.len
 have hs := k.short
 have hll := k.n
 have kd := k.d
 rw [List.append_nil]
 have e0 : (0 : Int) < l.length := by have := List.length_pos_iff.2 hl0; omega
 obtain ⟨p0,dv0,sv0,i0,_,r0a,_,hd0,_⟩ := hv.at_ (j := 0) (by omega)
 have r0a' := fT r0a
 have hdays0 : bD l = l[0].days.length := by rw [bD,aS]
 have ld0 := hd0.len
 rw [← hdays0] at ld0
 simp only [go_sem,mf9,hlen,e0,i0,r0a',ld0]
 refine bX (ACall.vc (first := []) (args := [_,_,_]) (qM (bD l) hv hw hs hn hok)) ?_
 intro y H0 hK
 cases q : eX l sw (bD l) with
 | none =>
  rw [q] at hK
  obtain ⟨rfl,s0⟩ := hK
  simp only [go_sem]
  rw [iO,q]
  exact ⟨rfl,s0⟩
 | some g0 =>
 rw [q] at hK
 obtain ⟨ov0,so0,c0,rfl,R0⟩ := hK
 have hT : iO l sw = some ((eG l sw 1001).map (kZ l sw)) := by rw [iO,q]; rfl
 rw [hT]
 simp only [go_sem]
 refine dB (S := aA × AV) (fun n s => [(0,v),(1,sv),(6,.int .i64 (bD l)),(9,s.2),(10,.int .i64 n)]) (fun _ s => s.1) (fun n s => Gro h s.1 6 (eG l sw n).length s.2 (((eG l sw n).map (kZ l sw)).map aB.c).flatten) 1001 (H0,.nilS) (Gro.nil R0.sub) rfl rfl ?_ ?_
 · rintro n ⟨H,ov⟩ hn1 g ih
   simp only at g ih ⊢
   refine aJ aQ vL [0,1,6,9,10] L9_4.eq_1 ?_
   have e1 : (n : Int) ≤ 1000 := by omega
   simp only [go_sem,e1]
   obtain ⟨H1,eH1⟩ : ∃ H1,H1 = H ++ [some (Blk.row (rowT n))] := ⟨_,rfl⟩
   have bx1 : H1[H.length]? = some (some (.row (rowT n))) := by rw [eH1,qI (Nat.le_refl _),Nat.sub_self]; rfl
   have s1 : aG H H1 := by rw [eH1]; exact aG.refl.app
   have eH1' : H ++ [some (Blk.row [AV.int IntKind.i64 n,AV.int IntKind.i64 0,AV.int IntKind.i64 0,AV.int IntKind.i64 0,AV.int IntKind.i64 0,AV.int IntKind.i64 0])] = H1 := eH1.symm
   rw [eH1']
   have hs1 := g.sub.trans s1
   refine dB (S := Unit) (fun j _ => [(0,v),(1,sv),(6,.int .i64 (bD l)),(9,ov),(10,.int .i64 n),(11,.ptr (.own H.length 0)),(12,.bool ((sw.take j).any fun s => decide (s.serial = n))),(13,.int .i64 j)]) (fun _ _ => H1) (fun _ _ => True) sw.length () trivial rfl rfl ?_ ?_
   · rintro j _ hj _ ih2
     refine aJ aQ aAF [0,1,6,9,10,11,12,13] L9_0.eq_1 ?_
     have e2 : (j : Int) < sw.length := by omega
     obtain ⟨p,i1,_,r1⟩ := hw.at_ hj
     have r1' := hs1.rdn r1
     have r2 : rd w0 H1 (p.add 3) = some (.int .i64 sw[j].serial) := lI r1' rfl
     have nx := yO (p := fun s : aM => decide (s.serial = n)) hj
     have ih2' := ih2 () trivial
     rw [nx] at ih2'
     cases c : (sw.take j).any fun s => decide (s.serial = n) with
     | true =>
      rw [c] at ih2'
      simp only [go_sem,e2,hlw]
      exact ⟨(by unfold I64; omega),ih2'⟩
     | false =>
      rw [c] at ih2'
      have eb : ((sw[j].serial : Int) == (n : Int)) = decide (sw[j].serial = n) := by by_cases q : sw[j].serial = (n : Int) <;> simp [q]
      simp only [go_sem,e2,hlw,i1,r2,eb]
      exact ⟨(by unfold I64; omega),by simpa using ih2'⟩
   · rintro _ _
     refine aJ aQ aAF [0,1,6,9,10,11,12,13] L9_0.eq_1 ?_
     have e2 : ¬ (sw.length : Int) < sw.length := by omega
     rw [List.take_length]
     simp only [go_sem,e2,hlw]
     refine dB (S := Unit) (fun j _ => [(0,v),(1,sv),(6,.int .i64 (bD l)),(9,ov),(10,.int .i64 n),(11,.ptr (.own H.length 0)),(12,.bool ((sw.any fun s => decide (s.serial = n)) || (l.take j).any fun t => decide ((n : Int) ∈ t.ser))),(14,.int .i64 j)]) (fun _ _ => H1) (fun _ _ => True) l.length () trivial (by simp) rfl ?_ ?_
     · rintro j _ hj _ ih2
       refine aJ aQ aAE [0,1,6,9,10,11,12,14] L9_1.eq_1 ?_
       have e3 : (j : Int) < l.length := by omega
       obtain ⟨p,dv,tv,i1,_,_,rb,_,hsv⟩ := hv.at_ hj
       have rb' := hs1.rd (fT rb)
       have htm := hs.2 _ (qG hj)
       have nx := yO (p := fun t : aH => decide ((n : Int) ∈ t.ser)) hj
       have ih2' := ih2 () trivial
       rw [nx,← Bool.or_assoc] at ih2'
       cases c : ((sw.any fun s => decide (s.serial = n)) || (l.take j).any fun t => decide ((n : Int) ∈ t.ser)) with
       | true =>
        rw [c] at ih2'
        simp only [go_sem,e3,hlen]
        exact ⟨(by unfold I64; omega),ih2'⟩
       | false =>
        rw [c] at ih2'
        simp only [go_sem,e3,hlen,i1,rb']
        refine aO (uK n (hsv.s.sub hs1) (by omega)).v ?_
        simp only [go_sem]
        exact ⟨(by unfold I64; omega),by simpa using ih2'⟩
     · rintro _ _
       refine aJ aQ aAE [0,1,6,9,10,11,12,14] L9_1.eq_1 ?_
       have e3 : ¬ (l.length : Int) < l.length := by omega
       rw [List.take_length]
       have hiK : ((sw.any fun s => decide (s.serial = n)) || l.any fun t => decide ((n : Int) ∈ t.ser)) = isK l sw n := rfl
       rw [hiK]
       cases c : isK l sw n with
       | false =>
        simp only [go_sem,e3,hlen]
        refine ⟨(by unfold I64; omega),ih (H1,ov) ?_⟩
        simp only
        rw [qU,c]
        simp only [Bool.false_eq_true,if_false,List.append_nil]
        exact ⟨hs1,by
         rcases g.own with g1 | ⟨io,g1,g2,g3,g4,g5⟩
         · exact .inl g1
         · exact .inr ⟨io,g1,g2,g3,s1.2 _ _ g4,g5⟩⟩
       | true =>
        simp only [go_sem,e3,hlen]
        refine dB (S := aA × aB) (fun d _ => [(0,v),(1,sv),(6,.int .i64 (bD l)),(9,ov),(10,.int .i64 n),(11,.ptr (.own H.length 0)),(15,.int .i64 d)]) (fun _ s => s.1) (fun d s => aG H s.1 ∧ s.1[H.length]? = some (some (.row s.2.c)) ∧ s.2 = (iF l sw n d).foldl oP (zT n)) (bD l) (H1,zT n) ⟨s1,bx1,rfl⟩ rfl rfl ?_ ?_
        · rintro d ⟨K,x⟩ hd ⟨sK,bK,ex⟩ ih3
          simp only at sK bK ex ih3 ⊢
          refine aJ aQ aEN [0,1,6,9,10,11,15] L9_3.eq_1 ?_
          have e4 : (d : Int) < bD l := by omega
          have shK := g.sub.trans sK
          have hKl := aP bK
          simp only [go_sem,e4]
          refine bX (ACall.vc (first := []) (args := [_,_,_]) (qM d (hv.sub shK) (hw.sub shK) hs hn hok)) ?_
          intro y K1 hK1
          cases qd : eX l sw d with
          | none =>
           rw [qd] at hK1
           obtain ⟨rfl,t1⟩ := hK1
           have gd : gD l sw d = [] := by rw [gD,qd]; rfl
           simp only [go_sem]
           refine aJ aQ aAD [0,1,6,9,10,11,15,16,18] L9_2.eq_1 ?_
           simp only [go_sem]
           exact ⟨(by unfold I64; omega),ih3 (K1,x) ⟨sK.trans t1,t1.2 _ _ bK,by rw [kB,gd]; simpa [cS] using ex⟩⟩
          | some gg =>
           rw [qd] at hK1
           obtain ⟨ov2,so2,c2,rfl,RK⟩ := hK1
           have gd : gD l sw d = gg := by rw [gD,qd]; rfl
           have shg : dE l gg := rA (dE.start l) qd
           have ggl := shg.len
           simp only [go_sem]
           refine dB (S := aA × aB) (fun t _ => [(0,v),(1,sv),(6,.int .i64 (bD l)),(9,ov),(10,.int .i64 n),(11,.ptr (.own H.length 0)),(15,.int .i64 d),(16,ov2),(18,.int .i64 t)]) (fun _ s => s.1) (fun t s => aG H s.1 ∧ s.1[H.length]? = some (some (.row s.2.c)) ∧ Rows (K.set H.length none) s.1 ov2 so2 c2 gg ∧ s.2 = (iF l sw n d ++ cS l (gg.take t) d n).foldl oP (zT n)) gg.length (K1,x) ⟨sK.trans RK.sub,RK.sub.2 _ _ bK,⟨aG.msk.trans RK.sub,RK.val,fun e => ⟨by simpa using (RK.lst e).1,(RK.lst e).2⟩,RK.len,fun j z hz => by
            obtain ⟨y,h1,h2⟩ := RK.own j z hz
            exact ⟨y,h1,h2.less (by simp)⟩,RK.dis⟩,by simpa [cS] using ex⟩ rfl rfl ?_ ?_
           · rintro t ⟨K2,z⟩ ht ⟨sK2,bK2,R2,ez⟩ ih4
             simp only at sK2 bK2 R2 ez ih4 ⊢
             refine aJ aQ aAD [0,1,6,9,10,11,15,16,18] L9_2.eq_1 ?_
             have e5 : (t : Int) < gg.length := by omega
             have hgg : gg ≠ [] := fun e => by rw [e] at ht; simp at ht
             have htl : t < l.length := by omega
             obtain ⟨y,hy,ys,_,_,_⟩ := R2.row (w0 := w0) (qA ht)
             have u1 := (iP (so := so2) (n := gg.length)).1
             have u2 := (iP (so := so2) (n := gg.length)).2 t ht
             rw [← R2.val] at u1 u2
             have sx := (R2.lst hgg).2
             have gtl := shg.short hs _ (qG ht)
             have tk : cS l (gg.take (t + 1)) d n = cS l (gg.take t) d n ++ if (n : Int) ∈ gg[t] then [dS l t d] else [] := by
              rw [List.take_succ_eq_append_getElem ht,xX,List.length_take,Nat.min_eq_left (by omega)]
             simp only [go_sem,e5,u1,u2,sx,hy]
             refine aO (uK n ys.s (by omega)).v ?_
             by_cases hm : (n : Int) ∈ gg[t]
             · rw [decide_eq_true hm]
               rw [if_pos hm] at tk
               obtain ⟨p,dv,tv,i1,_,ra,_,hdv,_⟩ := hv.at_ htl
               have hdl : d < l[t].days.length := by rw [(k.day (qG htl)).1]; exact hd
               obtain ⟨p2,i2,_,r2⟩ := hdv.at_ hdl
               have shK2 := g.sub.trans sK2
               have ra' := shK2.rd (fT ra)
               have r2' := shK2.rdn r2
               have hu : dS l t d = l[t].days[d] := by rw [dS,aS htl,aS hdl]
               rw [← hu] at r2'
               have hub := k.use htl hd
               obtain ⟨u,eu⟩ : ∃ u,u = dS l t d := ⟨_,rfl⟩
               rw [← eu] at r2' hub tk
               have bU := zD hub
               obtain ⟨bT,bL⟩ := aDk k (sw := sw) (n := n) (t := t) hd
               rw [gd] at bT bL
               rw [← ez] at bT
               unfold BdT at bT
               have bz : ∀ L,(K2 ++ L)[H.length]? = some (some (.row [AV.int .i64 z.n,.int .i64 z.ml,.int .i64 z.mh,.int .i64 z.cl,.int .i64 z.ch,.int .i64 z.d])) := fun L => aE bK2
               have hK2l := aP bK2
               have bu : ∀ L,((K2 ++ some (Blk.row [AV.int .i64 u.ml,.int .i64 u.mh,.int .i64 u.cl,.int .i64 u.ch,.int .i64 u.sl,.int .i64 u.sh,.bool u.w]) :: L) : aA)[K2.length]? = some (some (.row [AV.int .i64 u.ml,.int .i64 u.mh,.int .i64 u.cl,.int .i64 u.ch,.int .i64 u.sl,.int .i64 u.sh,.bool u.w])) := fun L => by rw [qI (Nat.le_refl _),Nat.sub_self]; rfl
               simp only [go_sem,i1,ra',i2,r2',bz,bu]
               refine ⟨by unfold I64; omega,by unfold I64; omega,?_⟩
               obtain ⟨K3,eK3⟩ : ∃ K3,K3 = K2 ++ [some (Blk.row [AV.int IntKind.i64 u.ml,AV.int IntKind.i64 u.mh,AV.int IntKind.i64 u.cl,AV.int IntKind.i64 u.ch,AV.int IntKind.i64 u.sl,AV.int IntKind.i64 u.sh,AV.bool u.w])] := ⟨_,rfl⟩
               have lK3 : K3.length = K2.length + 1 := by rw [eK3]; simp
               have bu3 := bu []
               rw [← eK3] at bu3 ⊢
               have fs : ∀ r,(K3.set H.length (some (Blk.row r)))[H.length]? = some (some (.row r)) := fun r => qF (by omega)
               have fu : ∀ r,(K3.set H.length (some (Blk.row r)))[K2.length]? = some (some (.row [AV.int .i64 u.ml,.int .i64 u.mh,.int .i64 u.cl,.int .i64 u.ch,.int .i64 u.sl,.int .i64 u.sh,.bool u.w])) := fun r => by rw [qB (by omega)]; exact bu3
               have fss : ∀ a b,(K3.set H.length a).set H.length b = K3.set H.length b := fun a b => List.set_set ..
               simp only [go_sem,fs,fu,fss]
               refine ⟨by unfold I64; omega,by unfold I64; omega,?_⟩
               refine ⟨by unfold I64; omega,(by unfold I64; omega),?_⟩
               have s3 : aG K2 K3 := by rw [eK3]; exact aG.refl.app
               refine ih4 (K3.set H.length (some (.row (oP z u).c)),oP z u) ⟨(sK2.trans s3).setR (Nat.le_refl _),fs _,(R2.to s3).setB hKl,?_⟩
               simp only
               rw [tk,← List.append_assoc,List.foldl_append,← ez]
               rfl
             · rw [decide_eq_false hm]
               rw [if_neg hm,List.append_nil] at tk
               simp only [go_sem]
               exact ⟨(by unfold I64; omega),ih4 (K2,z) ⟨sK2,bK2,R2,by rw [tk]; exact ez⟩⟩
           · rintro ⟨K2,z⟩ ⟨sK2,bK2,R2,ez⟩
             simp only at sK2 bK2 R2 ez ⊢
             refine aJ aQ aAD [0,1,6,9,10,11,15,16,18] L9_2.eq_1 ?_
             have e5 : ¬ (gg.length : Int) < gg.length := by omega
             have u1 := (iP (so := so2) (n := gg.length)).1
             rw [← R2.val] at u1
             simp only [go_sem,e5,u1]
             rw [List.take_length] at ez
             exact ⟨(by unfold I64; omega),ih3 (K2,z) ⟨sK2,bK2,by rw [kB,gd]; exact ez⟩⟩
        · rintro ⟨K,x⟩ ⟨sK,bK,ex⟩
          simp only at sK bK ex ⊢
          refine aJ aQ aEN [0,1,6,9,10,11,15] L9_3.eq_1 ?_
          have e4 : ¬ (bD l : Int) < bD l := by omega
          have gK : Gro h K 6 (eG l sw n).length ov (((eG l sw n).map (kZ l sw)).map aB.c).flatten := ⟨g.sub.trans sK,by
           rcases g.own with g1 | ⟨io,g1,g2,g3,g4,g5⟩
           · exact .inl g1
           · exact .inr ⟨io,g1,g2,g3,sK.2 _ _ g4,g5⟩⟩
          have klen : (eG l sw n).length ≤ 1001 := by
           have : (eG l sw n).length ≤ n := by
            rw [eG]
            exact Nat.le_trans (List.length_filter_le _ _) (by simp)
           omega
          obtain ⟨G,ap,gG⟩ := (gK.app (L := [some (Blk.row x.c)])).more (w0 := w0) (b := 48) (f := true) (k := K.length) (x := x.c) (by rw [qI (Nat.le_refl _),Nat.sub_self]; rfl) rfl rfl (by omega) (by omega)
          have hl1 : (K ++ [some (Blk.row x.c)]).length = K.length + 1 := by simp
          rw [hl1] at ap gG
          simp only [aB.c] at ap
          simp only [go_sem,e4,bK,ap]
          refine ⟨(by unfold I64; omega),ih (G,.sl (.own (K.length + 1) 0) ((eG l sw n).length + 1) 6 false) ?_⟩
          simp only
          rw [qU,c,if_pos rfl,List.length_append,List.length_singleton,List.map_append,List.map_append,List.flatten_append]
          have : [((n : Nat) : Int)].map (kZ l sw) = [x] := by rw [ex]; rfl
          rw [this]
          rw [List.map_cons,List.map_nil,List.flatten_cons,List.flatten_nil,List.append_nil]
          exact gG
 · rintro ⟨H,ov⟩ g
   simp only at g ⊢
   refine aJ aQ vL [0,1,6,9,10] L9_4.eq_1 ?_
   have e1 : ¬ ((1001 : Nat) : Int) ≤ 1000 := by omega
   simp only [go_sem,e1]
   refine ⟨ov,rfl,g.sub,?_⟩
   exact g.sl (fun c hc => by obtain ⟨x,_,rfl⟩ := List.mem_map.1 hc; rfl) (by simp) (by omega)
end Go.Proofs.Ab
namespace Go.Proofs
open Go.Shelf
noncomputable def aAT : Ren where
 f := fun n => match n with
  | 125 => 82
  | 128 => 96
  | 129 => 97
  | 189 => 62
  | 215 => 98
  | 216 => 93
  | 257 => 81
  | 294 => 87
  | 295 => 88
  | 296 => 89
  | 297 => 90
  | 298 => 91
  | 299 => 92
  | 300 => 94
  | 301 => 95
  | 328 => 99
  | 329 => 100
  | 330 => 101
  | 331 => 102
  | 332 => 103
  | 343 => 104
  | n => n
 t := fun n => match n with
  | 0 => 0
  | 3 => 3
  | 4 => 4
  | 5 => 5
  | 9 => 9
  | 28 => 35
  | 46 => 158
  | 51 => 172
  | 53 => 174
  | 131 => 151
  | 182 => 164
  | 183 => 165
  | 218 => 175
  | 222 => 179
  | 228 => 181
  | 229 => 182
  | n => n
 g := fun n => n
theorem wK : Lays.n189 Tryz.prog aAT := {
 mixed := by kernel_rfl
 f125 := by kernel_rfl
 f128 := by kernel_rfl
 f129 := by kernel_rfl
 f189 := by kernel_rfl
 f215 := by kernel_rfl
 f216 := by kernel_rfl
 f257 := by kernel_rfl
 f294 := by kernel_rfl
 f295 := by kernel_rfl
 f296 := by kernel_rfl
 f297 := by kernel_rfl
 f298 := by kernel_rfl
 f299 := by kernel_rfl
 f300 := by kernel_rfl
 f301 := by kernel_rfl
 f328 := by kernel_rfl
 f329 := by kernel_rfl
 f330 := by kernel_rfl
 f331 := by kernel_rfl
 f332 := by kernel_rfl
 f343 := by kernel_rfl
 t0 := by kernel_rfl
 a0 := fun w => by kernel_rfl
 z0 := fun w => by kernel_rfl
 v0 := fun w => by kernel_rfl
 t3 := by kernel_rfl
 a3 := fun w => by kernel_rfl
 z3 := fun w => by kernel_rfl
 v3 := fun w => by kernel_rfl
 t4 := by kernel_rfl
 a4 := fun w => by kernel_rfl
 z4 := fun w => by kernel_rfl
 v4 := fun w => by kernel_rfl
 t5 := by kernel_rfl
 a5 := fun w => by kernel_rfl
 z5 := fun w => by kernel_rfl
 v5 := fun w => by kernel_rfl
 t9 := by kernel_rfl
 a9 := fun w => by kernel_rfl
 z9 := fun w => by kernel_rfl
 v9 := fun w => by kernel_rfl
 t28 := by kernel_rfl
 a28 := fun w => by kernel_rfl
 z28 := fun w => by kernel_rfl
 v28 := fun w => by kernel_rfl
 t46 := by kernel_rfl
 a46 := fun w => by kernel_rfl
 z46 := fun w => by kernel_rfl
 v46 := fun w => by kernel_rfl
 t51 := by kernel_rfl
 a51 := fun w => by kernel_rfl
 z51 := fun w => by kernel_rfl
 v51 := fun w => by kernel_rfl
 t53 := by kernel_rfl
 a53 := fun w => by kernel_rfl
 z53 := fun w => by kernel_rfl
 v53 := fun w => by kernel_rfl
 t131 := by kernel_rfl
 a131 := fun w => by kernel_rfl
 z131 := fun w => by kernel_rfl
 v131 := fun w => by kernel_rfl
 t182 := by kernel_rfl
 a182 := fun w => by kernel_rfl
 z182 := fun w => by kernel_rfl
 v182 := fun w => by kernel_rfl
 t183 := by kernel_rfl
 a183 := fun w => by kernel_rfl
 z183 := fun w => by kernel_rfl
 v183 := fun w => by kernel_rfl
 t218 := by kernel_rfl
 a218 := fun w => by kernel_rfl
 z218 := fun w => by kernel_rfl
 v218 := fun w => by kernel_rfl
 t222 := by kernel_rfl
 a222 := fun w => by kernel_rfl
 z222 := fun w => by kernel_rfl
 v222 := fun w => by kernel_rfl
 t228 := by kernel_rfl
 a228 := fun w => by kernel_rfl
 z228 := fun w => by kernel_rfl
 v228 := fun w => by kernel_rfl
 t229 := by kernel_rfl
 a229 := fun w => by kernel_rfl
 z229 := fun w => by kernel_rfl
 v229 := fun w => by kernel_rfl }
end Go.Proofs
namespace Go.Proofs.Ab
open Go Go.Proofs
variable {w0 : World} {h : aA}
attribute [local irreducible] ACall bB dH bQ dG rvC lp rg dr ex un rv
theorem keysOk : KOk Tryz.prog 75 137 3 4 := ⟨by kernel_rfl,by kernel_rfl,by kernel_rfl,by kernel_rfl,by kernel_rfl,⟨3,89,by kernel_rfl⟩⟩
theorem keys_b : (Tryz.prog.funcs[63]?).bind (·.body) = some (kCode 75 137 3 4) := by kernel_rfl
theorem keys_r : ((Tryz.prog.funcs[63]?).map fun fn => (fn.results.toList.mapM (crv Tryz.prog),fn.ntmps)) = some (some [],14) := by kernel_rfl
theorem keys_h : aD Tryz.prog 63 = true := by kernel_rfl
def GI (h0 : aA) (n0 : Nat) (lb : Blk) (ps : List AV) (G : aA) : Prop :=
 ∃ sv io,n0 + 1 < io ∧ n0 + 1 < G.length ∧ G[n0]? = some (some (.row [sv])) ∧ G[n0 + 1]? = some (some lb) ∧ Gr2 G 1 ps.length io sv ps ∧ aG h0 G
theorem yL {p : Pl} {mi : Nat} {es : List (AV × AV)} (hp : rd w0 h p = some (.map mi)) (hm : h[mi]? = some (some (.map es))) (hk : ∀ e ∈ es,∃ n,e.1 = .int .i64 n) (hn : es.length ≤ 1000) :
 ACall Tryz.prog w0 80 [.nilS,.fn (.func 63) [] [.ptr p]] h fun v H => ∃ ks io,ks.Perm (es.map (·.1)) ∧ Gr2 H 1 ks.length io v ks ∧ aG h H ∧ h.length < io := by
 have hml := aP hm
 refine bZ aQ aFS mf80_b mf80_g (qE rfl) fun hb ha => bV ?_
 simp only [go_sem,mf80]
 refine aFA [2,6] ?_
 simp only [go_sem]
 refine rg_use (fid := 63) (first := []) rfl (.inl rfl) fun hca hcb hps => ?_
 simp only [go_sem]
 obtain ⟨LB,hLB⟩ : ∃ LB : LoopState → Option Code → Blk,LB = Blk.loop 13 [(2,AV.ptr (Pl.own (List.length h) 0)),(6,AV.fn (Fn.func 63) [] [AV.ptr p])] #[7] (dC (hU 80) [1,0,1,0,0]) (dC (hU 80) [1,0,1,0,1]) := ⟨_,rfl⟩
 have hp' : rd w0 (h ++ [some (.row [.nilS]),some (LB .ready none)]) p = some (.map mi) := zP hp
 have hm' : (h ++ [some (Blk.row [AV.nilS]),some (LB .ready none)])[mi]? = some (some (.map es)) := aE hm
 rw [← hLB]
 refine aAc keysOk keys_b keys_r keys_h hp' hm' (fun e he => ⟨_,hk e he⟩) (I := GI (h.set mi none) h.length (LB .ready none)) ⟨.nilS,h.length + 2,by omega,by simp,?_,?_,.inl ⟨rfl,rfl,rfl⟩,?_⟩ ?_ ?_
 · rw [List.set_append_left _ _ hml,qI (by simp)]; simp
 · rw [List.set_append_left _ _ hml,qI (by simp)]; simp
 · rw [List.set_append_left _ _ hml]; exact aG.refl.app
 · rintro ps k G ⟨q,hq⟩ ⟨sv,io,g1,g2,g3,g4,g5,g6⟩
   obtain ⟨x,rfl⟩ : ∃ x,k = .int .i64 x := by
    have : k ∈ es.map (·.1) := hq.mem_iff.1 (by simp)
    obtain ⟨e,he,rfl⟩ := List.mem_map.1 this
    exact hk e he
   have hpl : ps.length < 1001 := by have := hq.length_eq; simp at this; omega
   have g4' := g4
   rw [hLB] at g4'
   refine yT (aCV (psl := [7]) aQ rfl aEM aEL aAC.eq_1 aAB.eq_1 g4' rfl hps hca hcb fun hb2 ha2 => ?_)
   simp only [go_sem]
   refine ⟨g4',?_⟩
   have a1 : (G.set (h.length + 1) (some (Blk.loop 13 [(2,AV.ptr (Pl.own (List.length h) 0)),(6,AV.fn (Fn.func 63) [] [AV.ptr p])] #[7] (dC (hU 80) [1,0,1,0,0]) (dC (hU 80) [1,0,1,0,1]) .busy none)))[h.length]? = some (some (.row [sv])) := by rw [qB (by omega)]; exact g3
   simp only [go_sem,a1]
   obtain ⟨LY,hLY⟩ : ∃ b,b = Blk.loop 13 [(2,AV.ptr (Pl.own (List.length h) 0)),(6,AV.fn (Fn.func 63) [] [AV.ptr p])] #[7] (dC (hU 80) [1,0,1,0,0]) (dC (hU 80) [1,0,1,0,1]) .busy none := ⟨_,rfl⟩
   rw [← hLY] at a1 ⊢
   obtain ⟨X,hX⟩ : ∃ X,X = G.set (h.length + 1) (some LY) ++ [some (Blk.row [AV.int .i64 x])] := ⟨_,rfl⟩
   have lX : X.length = G.length + 1 := by rw [hX]; simp
   have gX : ∀ i b,i ≠ h.length + 1 → G[i]? = some (some b) → X[i]? = some (some b) := fun i b hi e => by rw [hX]; exact aE (by rw [qB (fun e => hi e.symm)]; exact e)
   have gY : X[h.length + 1]? = some (some LY) := by rw [hX]; exact aE (qF g2)
   have gZ : X[G.length]? = some (some (.row [.int .i64 x])) := by rw [hX,qI (by simp)]; simp
   have gr : Gr2 X 1 ps.length io sv ps := by
    rcases g5 with h1 | ⟨h1,h2,h3,h4⟩
    · exact .inl h1
    · exact .inr ⟨h1,h2,gX _ _ (by omega) h3,h4⟩
   obtain ⟨G2,q1,q2,q3,q4⟩ := gr.more (w0 := w0) (b := 8) (f := true) gZ rfl rfl (by omega) (by omega)
   have gk : ∀ i b,i ≠ io → i < X.length → X[i]? = some (some b) → G2[i]? = some (some b) := fun i b hi hl e => by
    have e1 : (mk ps.length io X)[i]? = some (some b) := by
     unfold mk
     split
     · exact e
     · rw [qB (fun e => hi e.symm)]; exact e
    have e2 := q3.2 i b e1
    rw [mk,if_neg (by omega),qB (by omega)] at e2
    exact e2
   rw [← hX,q1]
   have b1 := gk _ _ (by omega) (by omega) (gX _ _ (by omega) g3)
   have b2 := gk _ _ (by omega) (by omega) gY
   have b3 : (G2.set h.length (some (.row [.sl (.own X.length 0) (ps.length + 1) 1 false])))[h.length + 1]? = some (some LY) := by rw [qB (by omega)]; exact b2
   simp only [go_sem,b1,b3]
   rw [hLY]
   simp only [go_sem]
   rw [hLB]
   refine ⟨.sl (.own X.length 0) (ps.length + 1) 1 false,X.length,by omega,by simp; omega,?_,?_,?_,?_⟩
   · rw [qB (by omega),qF (by omega)]
   · rw [qF (by simp; omega)]
   · rw [List.length_append]
     rcases q2 with h1 | ⟨h1,h2,h3,h4⟩
     · exact absurd h1.1 (by omega)
     · exact .inr ⟨h1,h2,by rw [qB (by omega),qB (by omega)]; exact h3,h4⟩
   · refine aG.setR (aG.setR ⟨by rw [List.length_set]; have := g6.1; simp at this; omega,fun i b e => ?_⟩ (by simp)) (by simp)
     have hi := aP e
     rw [List.length_set] at hi
     exact gk _ _ (by omega) (by omega) (gX _ _ (by omega) (g6.2 i b e))
 · rintro ps G hq ⟨sv,io,g1,g2,g3,g4,g5,g6⟩ hgl
   have hne : io ≠ mi := by omega
   have g4' : (G.set mi (some (.map es)))[h.length + 1]? = some (some (LB .ready none)) := by rw [qB (by omega)]; exact g4
   rw [g4',hLB]
   have e1 : ((G.set mi (some (.map es))).set (h.length + 1) none)[h.length]? = some (some (.row [sv])) := by rw [qB (by omega),qB (by omega)]; exact g3
   simp only [go_sem,e1]
   have hsub : aG h (G.set mi (some (.map es))) := ⟨by rw [List.length_set]; have := g6.1; simpa using this,fun i b e => by
    by_cases q : mi = i
    · subst q
      rw [hm] at e
      rw [qF (by omega)]; exact e
    · rw [qB q]
      exact g6.2 i b (by rw [qB q]; exact e)⟩
   refine ⟨ps,io,hq,?_,hsub.setR (by omega),by omega⟩
   rcases g5 with h1 | ⟨h1,h2,h3,h4⟩
   · exact .inl h1
   · exact .inr ⟨h1,h2,by rw [qB (by omega),qB (by omega)]; exact h3,h4⟩
end Go.Proofs.Ab
namespace Go.Proofs.Ab
open Go Go.Proofs
variable {w0 : World} {h : aA}
theorem wY (zs : List Int) : (zs.mergeSort fun x y => decide (x ≤ y)) = fK zs := by
 refine aA5 ((List.mergeSort_perm zs _).trans (cP zs).symm) ?_ jM
 have := List.pairwise_mergeSort (le := fun x y : Int => decide (x ≤ y)) (fun a b c h1 h2 => by simp at *; omega) (fun a b => by simp; omega) zs
 exact this.imp fun h => by simpa using h
theorem aCv {l : List Int} {k : Nat} {x : AV} (h : (bI l)[k]? = some x) : ∃ z,l[k]? = some z ∧ x = .int .i64 z := by
 simp only [bI,List.getElem?_map,qD] at h
 obtain ⟨z,h1,h2⟩ := h
 exact ⟨z,h1,h2.symm⟩
theorem aG8 {α : Type} {a : Array α} {i : Nat} {x : α} (e : a[i]? = some x) : i < a.size := by
 rcases Nat.lt_or_ge i a.size with h | h
 · exact h
 · rw [Array.getElem?_eq_none h] at e; cases e
theorem sort_c {H : aA} {b : Nat} {zs : List Int} {f : Bool} (hb : H[b]? = some (some (.row (bI zs)))) (hne : zs ≠ []) (hn : zs.length ≤ 1000) :
 ACall Tryz.prog w0 62 [.sl (.own b 0) zs.length 1 f] H fun v H' => v = .tup [] ∧ H' = H.set b (some (.row (bI (fK zs)))) := by
 have hz0 : zs.length ≠ 0 := fun e => hne (List.eq_nil_of_length_eq_zero e)
 refine ⟨by kernel_rfl,fun m w vs s hvs hbd => callsIn_wide.2 ?_⟩
 obtain ⟨v1,r1,e1,h1,h2⟩ := hvs
 simp only [VRs] at h2
 subst h2
 simp only [VR] at h1
 obtain ⟨a,cap,rfl,hc1,_,hc2⟩ := h1
 obtain ⟨ha,hsz⟩ : a = m.pl (.own b 0) ∧ ∀ i off,Pl.own b 0 = .own i off → off + cap * 1 ≤ m.sz i := by
  rcases hc2 with h | h
  · omega
  · exact h
 have hsz := hsz b 0 rfl
 obtain ⟨g1,⟨ca,ty,g2,g3,g4⟩,_⟩ := s.at_ b _ hb
 have hvs' : vs = #[.slice (some a) zs.length cap] := by
  rw [← Array.toArray_toList (xs := vs),e1]
 have ha' : a = ⟨m.blk b,m.base b,none⟩ := by rw [ha]; rfl
 rw [hvs',ha']
 have hcv : ∀ k,(hk : k < zs.length) → ca[m.base b + k]? = some (.int .i64 zs[k]) := fun k hk => by
  obtain ⟨y,hy,hvr⟩ := g4 k (.int .i64 zs[k]) (by simp [bI,hk])
  simp only [VR] at hvr
  rw [hy,hvr]
 have hH : Sort.Holds (Value.int .i64) w (m.blk b) (m.base b) zs.toArray := fun k hk => by
  have hk' : k < zs.length := by simpa using hk
  refine ⟨?_,by simp [World.frozen?,g2]⟩
  simp only [World.cell?,g2]
  rw [getElem!_pos _ k hk]
  simp only [Option.isSome_none,Bool.false_eq_true,if_false]
  rw [hcv k hk']
  simp
 have hlt : m.blk b < w.heap.size := s.lt hb
 have hS := Any.slices_Sort_int wK (m.blk b) (m.base b) cap zs w hH hlt (by omega)
 rw [wY] at hS
 refine Calls.mono (show Calls Tryz.prog 62 _ w _ from hS) fun e w' ⟨he,n,os,hw'⟩ => ?_
 obtain ⟨d,hd⟩ : ∃ d,d = (fK zs).toArray := ⟨_,rfl⟩
 rw [← hd] at hw'
 have dsz : d.size = zs.length := by rw [hd]; simpa using (cP zs).length_eq
 have j1 : w'.heap[m.blk b]? = some (.cells (Sort.putCells (Value.int .i64) (m.base b) d ca) ty (0,0)) := by
  rw [hw',Sort.heap_grow_old _ _ (by simpa [Sort.putRow,Sort.mapBlock,Sort.ahead] using hlt)]
  simp [Sort.putRow,Sort.mapBlock,Sort.ahead,Array.getElem?_modify,g2,Sort.onCells]
 have hsame : ∀ c,c < w.heap.size → c ≠ m.blk b → w'.heap[c]? = w.heap[c]? := fun c hc hne => by
  rw [hw',Sort.heap_grow_old _ _ (by simpa [Sort.putRow,Sort.mapBlock,Sort.ahead] using hc)]
  have hne' : ¬ m.blk b = c := fun e => hne e.symm
  simp [Sort.putRow,Sort.mapBlock,Sort.ahead,Array.getElem?_modify,hne']
 have hsize : w.heap.size ≤ w'.heap.size := by rw [hw']; simp [Sort.grow,Sort.putRow,Sort.mapBlock,Sort.ahead]
 have hnew : ∀ k,(hk : k < zs.length) → (Sort.putCells (Value.int .i64) (m.base b) d ca)[m.base b + k]? = ((fK zs)[k]?).map (Value.int .i64) := fun k hk => by
  have hkc : m.base b + k < ca.size := aG8 (hcv k hk)
  have hks : k < (fK zs).length := by rw [(cP zs).length_eq]; exact hk
  simp only [Sort.putCells,Array.getElem?_mapIdx,Array.getElem?_eq_getElem hkc,Option.map_some]
  rw [if_pos (by omega),Nat.add_sub_cancel_left,getElem!_pos d k (by omega),qA hks]
  simp [hd]
 have hpsz : (Sort.putCells (Value.int .i64) (m.base b) d ca).size = ca.size := by simp [Sort.putCells]
 refine ⟨_,he,m,.tup [],H.set b (some (.row (bI (fK zs)))),⟨⟨by have := s.size; omega,fun c hc => by rw [hsame c (by have := s.size; omega) (by omega)]; exact s.old c hc,fun t x hx => ?_,fun t u x y htu hx hy => ?_⟩,.refl _ _,⟨hsize,fun c hc hno => hsame c hc fun e => hno b _ hb e.symm,by rw [hw']; rfl,by rw [hw']; rfl,by rw [hw']; rfl⟩,by simp,fun t x hx hlt => ?_⟩,?_,trivial,rfl,rfl⟩
 · by_cases q : b = t
   · subst q
     rw [qF (aP hb)] at hx
     cases hx
     refine ⟨g1,⟨_,ty,j1,by rw [hpsz,g3],fun k x hk => ?_⟩,?_⟩
     · obtain ⟨z,hz,rfl⟩ := aCv hk
       have hk2 : k < zs.length := by have := aP hz; rwa [(cP zs).length_eq] at this
       exact ⟨.int .i64 z,by rw [hnew k hk2,hz]; rfl,by simp only [VR]⟩
     · rw [List.length_set]
       intro x hx
       simp only [bI,List.mem_map] at hx
       obtain ⟨z,_,rfl⟩ := hx
       trivial
   · rw [qB q] at hx
     obtain ⟨a1,a2,a3⟩ := s.at_ t x hx
     rw [List.length_set]
     exact ⟨a1,by rw [hsame _ (s.lt hx) (s.inj t b x _ (fun e => q e.symm) hx hb)]; exact a2,a3⟩
 · have old : ∀ t x,(H.set b (some (.row (bI (fK zs)))))[t]? = some (some x) → ∃ x',H[t]? = some (some x') := fun t x h => by
    by_cases q : b = t
    · subst q; exact ⟨_,hb⟩
    · rw [qB q] at h; exact ⟨x,h⟩
   obtain ⟨x',hx'⟩ := old t x hx
   obtain ⟨y',hy'⟩ := old u y hy
   exact s.inj t u x' y' htu hx' hy'
 · by_cases q : b = t
   · subst q; exact ⟨_,_,hb,rfl⟩
   · rw [qB q] at hx; exact ⟨t,x,hx,rfl⟩
 · simp only [VR]
   exact ⟨#[],rfl,by simp [VRs]⟩
end Go.Proofs.Ab
namespace Go.Proofs.Ab
open Go Go.Proofs
variable {w0 : World} {h : aA}
theorem len0_c : ACall Tryz.prog w0 82 [.int .u64 ((0 : Nat) : Int)] h fun v H => (∃ k,v = .int .i64 k) ∧ H = h := by
 refine ⟨by kernel_rfl,fun m w vs s hvs hbd => callsIn_wide.2 ?_⟩
 obtain ⟨v1,r1,e1,h1,h2⟩ := hvs
 simp only [VRs] at h2
 subst h2
 simp only [VR] at h1
 subst h1
 have hvs' : vs = #[.int .u64 0] := by
  rw [← Array.toArray_toList (xs := vs),e1]; rfl
 rw [hvs']
 have hL : Calls Tryz.prog 82 #[.int .u64 0] w _ := calls_of_every_depth fun D => AnyS.bits_LenIn (ρ := aAT) { wK with } D 0 w (by omega) (by omega)
 refine Calls.mono hL fun e w' ⟨he,hw⟩ => ?_
 subst hw
 exact ⟨_,he,m,.int .i64 (Lib.bitLen (Int.toNat 0)),h,aX.refl s,by simp only [VR],trivial,⟨_,rfl⟩,rfl⟩
attribute [local irreducible] ACall bB dH bQ dG rvC lp rg dr ex un rv
theorem aGY : ACall Tryz.prog w0 87 [.nilS,.int .i64 0,.int .i64 0] h fun v H => v = .tup [] ∧ H = h := by
 refine nY aQ aFM mf87_b mf87_g (qE rfl) fun hb ha => bV ?_
 simp only [go_sem,mf87]
 refine ⟨(by unfold I64; omega),?_⟩
 refine aJ aQ aHk [0,1,2,6] L87_1.eq_1 ?_
 have e1 : ¬ (1 : Int) < 0 := by omega
 simp only [go_sem,e1]
 exact ⟨h,[],by simp,Nat.le_refl _,hb,trivial,rfl⟩
theorem pdq_n {q : Int} : ACall Tryz.prog w0 81 [.nilS,.int .i64 0,.int .i64 0,.int .i64 q] h fun v H => v = .tup [] ∧ H = h := by
 refine nY aQ aFR mf81_b mf81_g (qE rfl) fun hb ha => bV ?_
 simp only [go_sem,mf81]
 refine aJ aQ aHl [0,1,2,3,8,9] L81_0.eq_1 ?_
 have e1 : (0 : Int) - 0 = 0 := by omega
 have e2 : (0 : Int) ≤ 12 := by omega
 simp only [go_sem,e1,e2]
 rw [List.append_nil]
 refine bX (ACall.vc (first := []) (args := [_,_,_]) aGY) ?_
 rintro _ _ ⟨rfl,rfl⟩
 simp only [go_sem]
 exact ⟨_,[],by simp,Nat.le_refl _,hb,trivial,rfl⟩
theorem Sort_n : ACall Tryz.prog w0 62 [.nilS] h fun v H => v = .tup [] ∧ H = h := by
 refine nY aQ aF7 mf62_b mf62_g (qE rfl) fun hb ha => bV ?_
 simp only [go_sem,mf62]
 rw [List.append_nil]
 have e1 : dI .u64 0 = some (.int .u64 ((0 : Nat) : Int)) := rfl
 simp only [go_sem,e1]
 refine bX (ACall.vc (first := []) (args := [_]) len0_c) ?_
 rintro _ _ ⟨⟨q,rfl⟩,rfl⟩
 simp only [go_sem]
 refine bX (ACall.vc (first := []) (args := [_,_,_,_]) pdq_n) ?_
 rintro _ _ ⟨rfl,rfl⟩
 simp only [go_sem]
 exact ⟨_,[],by simp,Nat.le_refl _,hb,trivial,rfl⟩
theorem aCH {p : Pl} {mi : Nat} {es : List (AV × AV)} (hp : rd w0 h p = some (.map mi)) (hm : h[mi]? = some (some (.map es))) (hk : ∀ e ∈ es,∃ n,e.1 = .int .i64 n) (hn : es.length ≤ 1000) :
 ACall Tryz.prog w0 61 [.fn (.func 63) [] [.ptr p]] h fun v H => ∃ ks io,ks.Perm (es.map (·.1)) ∧ Gr2 H 1 ks.length io v ks ∧ aG h H ∧ h.length < io := by
 refine bZ aQ aF8 mf61_b mf61_g (qE rfl) fun hb ha => bV ?_
 simp only [go_sem,mf61]
 rw [List.append_nil]
 refine bX (ACall.vc (first := []) (args := [_,_]) (yL hp hm hk hn)) ?_
 rintro v H hH
 simp only [go_sem]
 exact hH
theorem aDu {p : Pl} {mi : Nat} {M : List aB} (hp : rd w0 h p = some (.map mi)) (hm : h[mi]? = some (some (.map (eA M)))) (hn : M.length ≤ 1000) :
 ACall Tryz.prog w0 28 [.fn (.func 63) [] [.ptr p]] h fun v H => aG h H ∧ SlI w0 H v (fK (M.map aB.n)) := by
 refine bZ aQ aGC mf28_b mf28_g (qE rfl) fun hb ha => bV ?_
 simp only [go_sem,mf28]
 rw [List.append_nil]
 refine bX (ACall.vc (first := []) (args := [_]) (aCH hp hm (fun e he => by
  simp only [eA,List.mem_map] at he
  obtain ⟨k,_,rfl⟩ := he
  exact ⟨k.n,rfl⟩) (by simpa [eA] using hn))) ?_
 rintro v H ⟨kl,io,k1,k2,k3,k4⟩
 have k1' : kl.Perm (bI (M.map aB.n)) := by
  have : (eA M).map (·.1) = bI (M.map aB.n) := by simp [eA,bI,List.map_map,Function.comp_def]
  rw [this] at k1; exact k1
 obtain ⟨xs,rfl⟩ : ∃ xs,kl = bI xs := by
  have : ∀ l : List AV,(∀ x ∈ l,∃ n,x = AV.int .i64 n) → ∃ xs,l = bI xs := fun l => by
   induction l with
   | nil => exact fun _ => ⟨[],rfl⟩
   | cons x l ih =>
    intro hx
    obtain ⟨n,rfl⟩ := hx x (by simp)
    obtain ⟨xs,rfl⟩ := ih fun y hy => hx y (by simp [hy])
    exact ⟨n :: xs,rfl⟩
  refine this kl fun x hx => ?_
  have := k1'.mem_iff.1 hx
  simp only [bI,List.mem_map] at this
  obtain ⟨n,_,rfl⟩ := this
  exact ⟨n,rfl⟩
 have kp : xs.Perm (M.map aB.n) := by
  have f : List.Perm ((bI xs).map fun x => match x with | .int _ n => n | _ => 0) ((bI (M.map aB.n)).map fun x => match x with | .int _ n => n | _ => 0) := k1'.map _
  simpa [bI,Function.comp_def] using f
 have hxl : (bI xs).length = xs.length := by simp [bI]
 rw [hxl] at k2
 have hsort : fK xs = fK (M.map aB.n) := aA5 ((cP xs).trans (kp.trans (cP _).symm)) jM jM
 have hxl2 : xs.length ≤ 1000 := by have := kp.length_eq; simp at this; omega
 rcases k2 with ⟨k5,rfl,_⟩ | ⟨k5,rfl,k6,_⟩
 · obtain rfl : xs = [] := List.length_eq_zero_iff.1 k5
   simp only [go_sem]
   refine bX (ACall.vc (first := []) (args := [_]) Sort_n) ?_
   rintro _ _ ⟨rfl,rfl⟩
   simp only [go_sem]
   refine ⟨k3,?_⟩
   rw [← hsort]
   exact .inl ⟨rfl,rfl⟩
 · simp only [go_sem]
   have hne : xs ≠ [] := fun e => k5 (by rw [e]; rfl)
   refine bX (ACall.vc (first := []) (args := [_]) (sort_c k6 hne hxl2)) ?_
   rintro _ _ ⟨rfl,rfl⟩
   simp only [go_sem]
   rw [← hsort]
   exact ⟨k3.setR (by omega),aAU (qF (aP k6)) (by rw [(cP xs).length_eq])⟩
end Go.Proofs.Ab

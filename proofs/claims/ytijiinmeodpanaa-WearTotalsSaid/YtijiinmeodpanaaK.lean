/- The own layer under the proofs of this seat, part K: what calls of the program come to on an abstract heap. No condition. -/
import Derived.Test.YtijiinmeodpanaaJ
import Derived.Test.YtijiinmeodpanaaProg
import Derived.Shelf.Sort.Plain
import Derived.KernelRfl
import Derived.Test.YtijiinmeodpanaaH
set_option linter.unusedSimpArgs false
set_option linter.unusedVariables false
namespace Go.Proofs.Ab
open Go Go.Proofs
variable {w0 : World} {h : aA}
attribute [local irreducible] ACall bD dI bQ dH rvC lp rg dr ex un rv
theorem aER {H : aA} {m n io k : Nat} {ov : AV} {vs x : List AV} {f : Bool} (hov : n = 0 ∧ ov = .nilS ∧ vs = [] ∨ n ≠ 0 ∧ ov = .sl (.own io 0) n 1 false ∧ H[io]? = some (some (.row vs)) ∧ vs.length = n)
 (hk : H[k]? = some (some (.row x))) (hx : x.length = m) (hm : m ≠ 0) (ho : x.all one = true) (hn : n + m ≤ 1000000000) :
 ∃ G,dS w0 H 1 24 ov (.sl (.own k 0) m 1 f) = some (.sl (.own H.length 0) (n + m) 1 false,G) ∧ ((n = 0 ∧ G = H ++ [some (.row x)]) ∨ (n ≠ 0 ∧ G = H.set io none ++ [some (.row (vs ++ x))])) := by
 have r1 : rdn w0 H (.own k 0) (m * 1) = some x := by
  simp only [rdn,hk]; simp [hx]; rw [← hx]; simp
 rcases hov with ⟨h1,h2,h3⟩ | ⟨h1,h2,h3,h4⟩
 · subst h1; subst h2; subst h3
   refine ⟨_,?_,.inl ⟨rfl,rfl⟩⟩
   simp only [dS,fK,jW,if_true,r1,Option.map_some,Option.bind_some]
   rw [if_neg hm,if_pos ⟨by omega,ho⟩]
   simp [eO]
 · have hlt := aQ h3
   have r2 : rdn w0 H (.own io 0) (n * 1) = some vs := by
    simp only [rdn,h3]; simp [h4]; rw [← h4]; simp
   refine ⟨_,?_,.inr ⟨h1,rfl⟩⟩
   rw [h2]
   simp only [dS,fK,jW,if_true,r1,Option.map_some,Option.bind_some]
   rw [if_neg hm,if_pos ⟨trivial,by omega,ho⟩]
   simp only [Bool.false_eq_true,if_false,r2,Option.bind_some]
structure Rows (h H : aA) (ov : AV) (so : Nat) (c : List AV) (g : List (List Int)) : Prop where
 sub : aH h H
 val : ov = slG so g.length
 lst : g ≠ [] → h.length ≤ so ∧ H[so]? = some (some (.row c))
 len : c.length = g.length
 own : ∀ (j : Nat) x,g[j]? = some x → ∃ y,c[j]? = some y ∧ iU h H y x
 dis : ∀ (i j b n n' : Nat) (f f' : Bool),c[i]? = some (.sl (.own b 0) n 1 f) → c[j]? = some (.sl (.own b 0) n' 1 f') → i = j
section
variable {H H' : aA} {ov : AV} {so : Nat} {c : List AV} {g : List (List Int)}
theorem Rows.nil (s : aH h H) : Rows h H .nilS 0 [] [] := ⟨s,rfl,fun e => absurd rfl e,rfl,fun j x e => by simp at e,fun i j b n n' f f' e => by simp at e⟩
theorem iU.to {y : AV} {x : List Int} (a : iU h H y x) (s : ∀ b : Nat,H[b]? = some (some (.row (bJ x))) → y ≠ .nilS → H'[b]? = some (some (.row (bJ x)))) : iU h H' y x := by
 rcases a with a | ⟨b,f,e1,e2,e3⟩
 · exact .inl a
 · exact .inr ⟨b,f,e1,e2,s b e3 (by rw [e1]; simp)⟩
theorem Rows.to (a : Rows h H ov so c g) (s : aH H H') : Rows h H' ov so c g :=
 ⟨a.sub.trans s,a.val,fun e => ⟨(a.lst e).1,s.2 _ _ (a.lst e).2⟩,a.len,fun j x hx => by
  obtain ⟨y,h1,h2⟩ := a.own j x hx
  exact ⟨y,h1,iU.to h2 fun b e _ => s.2 _ _ e⟩,a.dis⟩
theorem Rows.row (a : Rows h H ov so c g) {k : Nat} {x : List Int} (hk : g[k]? = some x) : ∃ y,c[k]? = some y ∧ SlO w0 H y x ∧ Ab.one y = true ∧ cellsOf y = some [y] ∧ (x ≠ [] → ∃ b f,y = .sl (.own b 0) x.length 1 f ∧ h.length ≤ b ∧ H[b]? = some (some (.row (bJ x)))) := by
 obtain ⟨y,h1,h2⟩ := a.own k x hk
 refine ⟨y,h1,h2.slo,h2.one.1,h2.one.2,fun hx => ?_⟩
 rcases h2 with ⟨e,_⟩ | ⟨b,f,e1,e2,e3⟩
 · exact absurd e hx
 · exact ⟨b,f,e1,e2,e3⟩
theorem Rows.nso (a : Rows h H ov so c g) {j b : Nat} {x : List Int} {n : Nat} {f : Bool} (hj : c[j]? = some (.sl (.own b 0) n 1 f)) (hb : H[b]? = some (some (.row (bJ x)))) : b ≠ so := fun e => by
 have hc := aQ hj
 rw [a.len] at hc
 have hg : g ≠ [] := fun q => by rw [q] at hc; simp at hc
 have := (a.lst hg).2
 rw [← e,hb] at this
 simp only [Option.some.injEq,Blk.row.injEq] at this
 rw [← this] at hj
 exact qP (List.mem_of_getElem? hj)
theorem Rows.put (a : Rows h H ov so c g) {k b : Nat} {x x' : List Int} {f : Bool} (hk : g[k]? = some x) (hc : c[k]? = some (.sl (.own b 0) x.length 1 f)) (hb : H[b]? = some (some (.row (bJ x)))) (hl : h.length ≤ b) (hx : x'.length = x.length) :
 Rows h (H.set b (some (.row (bJ x')))) ov so c (g.set k x') := by
 have hkl := aQ hk
 have hbl := aQ hb
 have hg : g ≠ [] := fun e => by rw [e] at hkl; simp at hkl
 have ns := a.nso hc hb
 refine ⟨a.sub.setR hl,by rw [List.length_set]; exact a.val,fun _ => ⟨(a.lst hg).1,by rw [qB ns]; exact (a.lst hg).2⟩,by rw [List.length_set]; exact a.len,fun j y hy => ?_,a.dis⟩
 by_cases e : k = j
 · subst e
   rw [qF hkl] at hy
   cases hy
   exact ⟨_,hc,.inr ⟨b,f,by rw [hx],hl,qF hbl⟩⟩
 · rw [qB e] at hy
   obtain ⟨z,h1,h2⟩ := a.own j y hy
   refine ⟨z,h1,?_⟩
   rcases h2 with h2 | ⟨b',f',e1,e2,e3⟩
   · exact .inl h2
   · refine .inr ⟨b',f',e1,e2,?_⟩
     rw [qB]
     · exact e3
     · intro q
       subst q
       rw [e1] at h1
       exact e (a.dis _ _ _ _ _ _ _ hc h1)
theorem Rows.push {H0 : aA} (a : Rows h H0 ov so c g) (s : aH H0 H) {y : AV} {x : List Int} {k : Nat} {f : Bool} (oy : iU H0 H y x) (hk : H[k]? = some (some (.row [y]))) (hn : g.length ≤ 1000000) :
 ∃ G,dS w0 H 1 24 ov (.sl (.own k 0) 1 1 f) = some (.sl (.own H.length 0) (g.length + 1) 1 false,G) ∧ Rows h G (.sl (.own H.length 0) (g.length + 1) 1 false) H.length (c ++ [y]) (g ++ [x]) ∧ (∀ i b,(g ≠ [] → i ≠ so) → H[i]? = some (some b) → G[i]? = some (some b)) ∧ H.length < G.length := by
 have b1 := a.to s
 have hov : g.length = 0 ∧ ov = .nilS ∧ c = [] ∨ g.length ≠ 0 ∧ ov = .sl (.own so 0) g.length 1 false ∧ H[so]? = some (some (.row c)) ∧ c.length = g.length := by
  by_cases hg : g = []
  · subst hg
    exact .inl ⟨rfl,b1.val,List.length_eq_zero_iff.1 b1.len⟩
  · have hl : g.length ≠ 0 := fun e => hg (List.eq_nil_of_length_eq_zero e)
    exact .inr ⟨hl,by rw [b1.val,slG,if_neg hl],(b1.lst hg).2,b1.len⟩
 obtain ⟨G,g1,g2⟩ := aER (w0 := w0) (f := f) hov hk (m := 1) rfl (by omega) (by simp [oy.one.1]) (by omega)
 have kp : ∀ i b,(g ≠ [] → i ≠ so) → H[i]? = some (some b) → G[i]? = some (some b) := fun i b hi e => by
  rcases g2 with ⟨_,rfl⟩ | ⟨hl,rfl⟩
  · exact aE e
  · refine aE ?_
    rw [qB (fun q => hi (fun e => hl (by rw [e]; rfl)) q.symm)]; exact e
 have hlast : G[H.length]? = some (some (.row (c ++ [y]))) := by
  rcases g2 with ⟨hl,rfl⟩ | ⟨hl,rfl⟩
  · have : c = [] := List.length_eq_zero_iff.1 (by rw [b1.len]; exact hl)
    rw [this,qI (Nat.le_refl _),Nat.sub_self]; rfl
  · rw [qI (by simp)]; simp
 have hlt := aQ hlast
 refine ⟨G,g1,⟨?_,by simp [slG],fun _ => ⟨b1.sub.1,hlast⟩,by simp [b1.len],fun j z hz => ?_,fun i j b n n' f f' e1 e2 => ?_⟩,kp,hlt⟩
 · refine ⟨by have := b1.sub.1; omega,fun i b e => kp i b (fun hg q => ?_) (b1.sub.2 i b e)⟩
   have := (b1.lst hg).1
   have := aQ e
   omega
 · by_cases hj : j < g.length
   · rw [qH hj] at hz
     obtain ⟨u,h1,h2⟩ := b1.own j z hz
     refine ⟨u,by rw [qH (by rw [b1.len]; exact hj)]; exact h1,?_⟩
     rcases h2 with h2 | ⟨b,f',e1,e2,e3⟩
     · exact .inl h2
     · rw [e1] at h1
       exact .inr ⟨b,f',e1,e2,kp b _ (fun _ => b1.nso h1 e3) e3⟩
   · obtain rfl : j = g.length := by have := aQ hz; simp at this; omega
     rw [qI (Nat.le_refl _),Nat.sub_self] at hz
     cases hz
     refine ⟨y,by rw [qI (by rw [b1.len]; omega),b1.len,Nat.sub_self]; rfl,?_⟩
     rcases oy with h2 | ⟨b,f',e1,e2,e3⟩
     · exact .inl h2
     · refine .inr ⟨b,f',e1,by have := a.sub.1; omega,kp b _ (fun hg q => ?_) e3⟩
       have := aQ (a.lst hg).2
       omega
 · have hlen := b1.len
   have old : ∀ {i b n f},i < c.length → (c ++ [y])[i]? = some (.sl (.own b 0) n 1 f) → b < H0.length := fun {i b n f} hi e => by
    rw [qH hi] at e
    obtain ⟨z,hz⟩ : ∃ z,g[i]? = some z := ⟨_,qA (by rw [← hlen]; exact hi)⟩
    obtain ⟨u,h1,h2⟩ := a.own i z hz
    rw [h1] at e
    cases e
    rcases h2 with ⟨_,h2⟩ | ⟨b',f',e1,e2,e3⟩
    · cases h2
    · cases e1; exact aQ e3
   have new : ∀ {i b n f},¬ i < c.length → (c ++ [y])[i]? = some (.sl (.own b 0) n 1 f) → H0.length ≤ b ∧ i = c.length := fun {i b n f} hi e => by
    have hil := aQ e
    rw [List.length_append,List.length_singleton] at hil
    obtain rfl : i = c.length := by omega
    rw [qI (Nat.le_refl _),Nat.sub_self] at e
    cases e
    rcases oy with ⟨_,h2⟩ | ⟨b',f',q1,q2,q3⟩
    · cases h2
    · cases q1; exact ⟨q2,rfl⟩
   by_cases hi : i < c.length
   · by_cases hj : j < c.length
     · rw [qH hi] at e1
       rw [qH hj] at e2
       exact a.dis _ _ _ _ _ _ _ e1 e2
     · have := old hi e1
       have := (new hj e2).1
       omega
   · by_cases hj : j < c.length
     · have := old hj e2
       have := (new hi e1).1
       omega
     · rw [(new hi e1).2,(new hj e2).2]
end
theorem aC1 {H : aA} {v : AV} {x : List Int} (s : SlO w0 H v x) (hn : x.length ≤ 1000) : ∃ y H1,dS w0 H 1 8 .nilS v = some (y,H1) ∧ aH H H1 ∧ iU H H1 y x := by
 by_cases hx : x = []
 · subst hx
   refine ⟨.nilS,H,?_,aH.refl,.inl ⟨rfl,rfl⟩⟩
   simp only [dS,s.e rfl,Option.bind_some]
   rfl
 · have := aES (w0 := w0) (b := 8) s.s (by simpa using hx) (by simp [Ab.one]) (by omega) (by simp; omega)
   rw [← kK,List.length_map] at this
   exact ⟨_,_,this,aH.refl.app,.inr ⟨H.length,false,rfl,Nat.le_refl _,by simp⟩⟩
structure vS (l : List aG) (s : aJ) : Prop where
 t0 : 0 ≤ s.tail
 t1 : s.tail < l.length
 s0 : 0 ≤ s.slot
 s1 : s.slot < (l.getD s.tail.toNat qZ).ser.length
theorem vS.of {l : List aG} {s : aJ} (h : iJ l s = true) : vS l s := by
 simp only [iJ,Bool.and_eq_true,jF] at h
 exact ⟨h.1.1,by omega,h.2.1.1,by omega⟩
def cW (l : List aG) (g : List (List Int)) : Prop := g.map List.length = l.map fun t => t.ser.length
theorem cW.len {l : List aG} {g : List (List Int)} (s : cW l g) : g.length = l.length := by have := congrArg List.length s; simpa using this
theorem cW.at_ {l : List aG} {g : List (List Int)} (s : cW l g) {k : Nat} (hk : k < g.length) : g[k].length = (l.getD k qZ).ser.length := by
 have hl : k < l.length := by rw [← s.len]; exact hk
 have e := congrArg (fun x => x[k]?) s
 simp only [List.getElem?_map,qA hk,qA hl,Option.map_some,Option.some.injEq] at e
 rw [aR hl]; exact e
theorem cW.put {l : List aG} {g : List (List Int)} (s : cW l g) (x : aJ) : cW l (lM g x) := by unfold cW; rw [aF3]; exact s
theorem cW.start (l : List aG) : cW l (l.map aG.ser) := by simp [cW]
theorem cW.short {l : List aG} {g : List (List Int)} (s : cW l g) (hs : jK l) : ∀ x ∈ g,x.length ≤ 1000 := fun x hx => by
 obtain ⟨k,hk,rfl⟩ := List.getElem_of_mem hx
 rw [s.at_ hk]
 have hl : k < l.length := by rw [← s.len]; exact hk
 rw [aR hl]
 exact (hs.2 _ (qG hl)).2
theorem iY {so n : Nat} : sC (slG so n) = some (.int .i64 n) ∧ ∀ j,j < n → fZ 1 (slG so n) (some j) = some (.ptr (.own so j)) := by
 by_cases hn : n = 0
 · subst hn; exact ⟨rfl,fun j hj => by omega⟩
 · rw [slG,if_neg hn]; exact ⟨rfl,fun j hj => nU hj⟩
def SlotsK (h : aA) (o : Option (List (List Int))) (y : AV) (H : aA) : Prop := match o with
 | none => y = .tup [.nilS,.bool false] ∧ aH h H
 | some g => ∃ ov so c,y = .tup [ov,.bool true] ∧ Rows h H ov so c g
set_option maxRecDepth 20000 in
theorem aD4 {v sv : AV} {l : List aG} {sw : List aJ} (d : Int) (hv : eE w0 h v l) (hw : fW w0 h sv sw) (hs : jK l) (hn : sw.length ≤ 1000) (hok : ∀ s ∈ sw,vS l s) : ACall Try.prog w0 9 [v,sv,.int .i64 d] h (SlotsK h (cS l sw d)) := by
 refine cB aW mf9_ok mf9_b mf9_g (qE rfl) fun hb ha => bT ?_
 have hlen := hv.len
 have hlw := hw.len
 have hll := hs.1
 simp only [go_sem,mf9]
 refine dM (S := aA × AV × Nat × List AV) (fun j s => [(0,v),(1,sv),(2,.int .i64 d),(8,s.2.1),(9,.int .i64 j)]) (fun _ s => s.1) (fun j s => Rows h s.1 s.2.1 s.2.2.1 s.2.2.2 ((l.take j).map aG.ser)) l.length (h,.nilS,0,[]) (by simpa using Rows.nil aH.refl) rfl (List.append_nil h) ?_ ?_
 · rintro j ⟨H,ov,so,c⟩ hj R ih
   simp only at R ih ⊢
   refine aN aW aE4 [0,1,2,8,9] L9_0.eq_1 ?_
   have e1 : (j : Int) < l.length := by omega
   obtain ⟨p,dv,tv,i1,r1,ra,rb,hd,hsv⟩ := hv.at_ hj
   have rb' := R.sub.rd (fU rb)
   obtain ⟨t,ht⟩ : ∃ t,t = l[j] := ⟨_,rfl⟩
   have htm := hs.2 t (ht ▸ qG hj)
   rw [← ht] at hsv
   obtain ⟨y,H1,ap,s1,oy⟩ := aC1 (hsv.sub R.sub) htm.2
   have o1 := oy.one
   have oy' : iU H (H1 ++ [some (Blk.row [y])]) y t.ser := oy.to fun b e _ => aE e
   have hk : (H1 ++ [some (Blk.row [y])])[H1.length]? = some (some (.row [y])) := by rw [qI (Nat.le_refl _),Nat.sub_self]; rfl
   obtain ⟨G,ap2,R2,_,_⟩ := R.push (w0 := w0) (f := true) s1.app oy' hk (by simp; omega)
   have hlg : (List.map aG.ser (List.take j l)).length = j := by simp; omega
   rw [hlg] at ap2 R2
   have hgl : (H1 ++ [some (Blk.row [y])]).length = H1.length + 1 := by simp
   rw [hgl] at ap2 R2
   simp only [go_sem,e1,hlen,i1,rb',ap,o1.1,o1.2,ap2]
   refine ⟨(by unfold I64; omega),ih (G,.sl (.own (H1.length + 1) 0) (j + 1) 1 false,H1.length + 1,c ++ [y]) ?_⟩
   have : (l.take (j + 1)).map aG.ser = (l.take j).map aG.ser ++ [t.ser] := by rw [List.take_succ_eq_append_getElem hj,List.map_append,← ht]; rfl
   simp only
   rw [this]
   exact R2
 · rintro ⟨H,ov,so,c⟩ R
   simp only at R ⊢
   rw [List.take_length] at R
   refine aN aW aE4 [0,1,2,8,9] L9_0.eq_1 ?_
   have e1 : ¬ (l.length : Int) < l.length := by omega
   simp only [go_sem,e1,hlen]
   refine dM (S := aA × List (List Int)) (fun j _ => [(1,sv),(2,.int .i64 d),(8,ov),(10,.int .i64 j)]) (fun _ s => s.1) (fun j s => Rows h s.1 ov so c s.2 ∧ cW l s.2 ∧ goF s.2 ((sw.drop j).filter fun s => decide (s.night < d)) = cS l sw d) sw.length (H,l.map aG.ser) ⟨R,cW.start l,rfl⟩ rfl rfl ?_ ?_
   · rintro j ⟨H,g⟩ hj ⟨R,sh,q⟩ ih
     simp only at R sh q ih ⊢
     refine aN aW aE2 [1,2,8,10] L9_2.eq_1 ?_
     have e2 : (j : Int) < sw.length := by omega
     obtain ⟨p,i1,_,r1⟩ := hw.at_ hj
     have r1' := R.sub.rdn r1
     obtain ⟨s,hsw⟩ : ∃ s,s = sw[j] := ⟨_,rfl⟩
     rw [← hsw] at r1'
     have k := hok s (hsw ▸ qG hj)
     rw [List.drop_eq_getElem_cons hj,← hsw] at q
     have bx : ∀ L,((H ++ some (Blk.row s.c) :: L) : aA)[H.length]? = some (some (.row s.c)) := fun L => by rw [qI (Nat.le_refl _),Nat.sub_self]; rfl
     have R1 := R.to (aH.refl.app (L := [some (Blk.row s.c)]))
     by_cases hnd : s.night < d
     · rw [List.filter_cons_of_pos (by simpa using hnd),goF] at q
       have hnd' : ¬ d ≤ s.night := by omega
       simp only [go_sem,e2,hlw,i1,r1',bx,hnd']
       obtain ⟨H1,eH1⟩ : ∃ H1,H1 = H ++ [some (Blk.row s.c)] := ⟨_,rfl⟩
       have bx1 : H1[H.length]? = some (some (.row s.c)) := by rw [eH1]; exact bx []
       have bx1' : ∀ L,(H1 ++ L)[H.length]? = some (some (.row s.c)) := fun L => aE bx1
       have eH1' : H ++ [some (Blk.row [AV.int IntKind.i64 s.night,AV.int IntKind.i64 s.tail,AV.int IntKind.i64 s.slot,AV.int IntKind.i64 s.serial])] = H1 := eH1.symm
       rw [← eH1] at R1
       rw [eH1']
       have gl : g.length = l.length := sh.len
       refine jC (fun t => [(1,sv),(2,.int .i64 d),(8,ov),(10,.int .i64 j),(11,.ptr (.own H.length 0)),(12,.int .i64 t)]) (fun t => s.serial < 0 ∨ s.serial ∉ g.getD t []) g.length rfl (fun t ht hall it => ?_) (fun hall => ?_)
       · refine aN aW aE3 [1,2,8,10,11,12] L9_1.eq_1 ?_
         have e3 : (t : Int) < g.length := by omega
         have hg : g ≠ [] := fun e => by rw [e] at ht; simp at ht
         obtain ⟨y,hy,ys,_,_,_⟩ := R1.row (w0 := w0) (qA ht)
         have u1 := (iY (so := so) (n := g.length)).1
         have u2 := (iY (so := so) (n := g.length)).2 t ht
         rw [← R1.val] at u1 u2
         have sx := (R1.lst hg).2
         have gj : g.getD t [] = g[t] := aR ht
         rw [gj] at it
         have gtl := sh.short hs _ (qG ht)
         by_cases h0 : 0 ≤ s.serial
         · simp only [go_sem,e3,u1,u2,sx,hy,bx1,h0]
           refine aV (aDX s.serial ys.s (by omega)).v ?_
           by_cases hm : s.serial ∈ g[t]
           · rw [decide_eq_true hm]
             simp only [go_sem]
             have no : fY g s = false := by
              rw [fY,decide_eq_false (by omega),Bool.false_or,List.all_eq_false]
              exact ⟨g[t],qG ht,by simpa using hm⟩
             rw [no] at q
             rw [← q]
             exact ⟨rfl,R1.sub⟩
           · rw [decide_eq_false hm]
             simp only [go_sem]
             exact ⟨(by unfold I64; omega),it (.inr hm)⟩
         · simp only [go_sem,e3,u1,u2,sx,hy,bx1,h0]
           exact ⟨(by unfold I64; omega),it (.inl (by omega))⟩
       · refine aN aW aE3 [1,2,8,10,11,12] L9_1.eq_1 ?_
         have e3 : ¬ (g.length : Int) < g.length := by omega
         have u1 := (iY (so := so) (n := g.length)).1
         obtain ⟨kt,hkt⟩ : ∃ n : Nat,s.tail = n := ⟨s.tail.toNat,by have := k.t0; omega⟩
         obtain ⟨ks,hks⟩ : ∃ n : Nat,s.slot = n := ⟨s.slot.toNat,by have := k.s0; omega⟩
         have ktl : kt < g.length := by have := k.t1; omega
         have hg : g ≠ [] := fun e => by rw [e] at ktl; simp at ktl
         obtain ⟨x,hx⟩ : ∃ x,x = g[kt] := ⟨_,rfl⟩
         have hgx : g[kt]? = some x := by rw [hx]; exact qA ktl
         have ksl : ks < x.length := by
          have := k.s1
          rw [hkt,Int.toNat_natCast,← sh.at_ ktl,← hx] at this
          omega
         obtain ⟨y,hy,ys,yo,yc,hy2⟩ := R1.row (w0 := w0) hgx
         obtain ⟨b,f,rfl,hbl,hbb⟩ := hy2 (fun e => by rw [e] at ksl; simp at ksl)
         have u2 := (iY (so := so) (n := g.length)).2 kt ktl
         rw [← R1.val] at u1 u2
         have sx := (R1.lst hg).2
         have i2 := nU (b := b) (f := f) ksl
         have il : (bJ x).length = x.length := by simp [bJ]
         have ok : fY g s = true := by
          rw [fY]
          by_cases h0 : s.serial < 0
          · rw [decide_eq_true h0]; rfl
          · rw [decide_eq_false h0,Bool.false_or,List.all_eq_true]
            intro z hz
            obtain ⟨i,hi,rfl⟩ := List.getElem_of_mem hz
            have := hall i hi
            rw [aR hi] at this
            simpa [h0] using this
         rw [ok] at q
         simp only [go_sem,e3,u1,u2,sx,hy,bx1,hkt,hks,i2,hbb,il]
         refine ⟨by omega,(by unfold I64; omega),?_⟩
         have hsp : (bJ x).take ks ++ AV.int .i64 s.serial :: (bJ x).drop (ks + 1) = bJ (x.set ks s.serial) := by rw [← aDG ksl,sQ]; rfl
         rw [hsp]
         have R2 := R1.put (x' := x.set ks s.serial) hgx hy hbb hbl (List.length_set ..)
         refine ih (H1.set b (some (.row (bJ (x.set ks s.serial)))),lM g s) ⟨?_,sh.put s,by simpa using q⟩
         rw [lM,hkt,hks,Int.toNat_natCast,Int.toNat_natCast,aR ktl,← hx]
         exact R2
     · rw [List.filter_cons_of_neg (by simpa using hnd)] at q
       have hnd' : d ≤ s.night := by omega
       simp only [go_sem,e2,hlw,i1,r1',bx,hnd']
       exact ⟨(by unfold I64; omega),ih (_,g) ⟨R1,sh,q⟩⟩
   · rintro ⟨H,g⟩ ⟨R,sh,q⟩
     simp only at R sh q ⊢
     refine aN aW aE2 [1,2,8,10] L9_2.eq_1 ?_
     have e2 : ¬ (sw.length : Int) < sw.length := by omega
     rw [List.drop_length,List.filter_nil,goF] at q
     simp only [go_sem,e2,hlw]
     rw [← q]
     exact ⟨ov,so,c,rfl,R⟩
def gD (l : List aG) (sw : List aJ) (e : Nat) : List (List Int) := (cS l sw (e : Int)).getD []
def cX (l : List aG) (sw : List aJ) (n : Int) (d : Nat) : List aM := (List.range d).flatMap fun e => jX l (gD l sw e) e n
def eX (l : List aG) (sw : List aJ) (n : Int) : aD := (cX l sw n (aO l)).foldl mC (zT n)
def isK (l : List aG) (sw : List aJ) (n : Int) : Bool := (sw.any fun s => decide (s.serial = n)) || l.any fun t => decide (n ∈ t.ser)
def cP (l : List aG) (sw : List aJ) (k : Nat) : List Int := ((List.range k).map fun i : Nat => (i : Int)).filter (isK l sw)
def uL (l : List aG) (sw : List aJ) : Option (List aD) := (cS l sw (aO l)).map fun _ => (cP l sw 1001).map (eX l sw)
theorem aAC {l : List aG} {g : List (List Int)} {d : Nat} {n : Int} : (jX l g d n).length ≤ g.length := by
 have : ∀ k,((g.zipIdx k).flatMap (fun p => if n ∈ p.1 then [dA l p.2 d] else [])).length ≤ g.length := by
  induction g with
  | nil => intro k; simp
  | cons a g ih =>
   intro k
   rw [List.zipIdx_cons,List.flatMap_cons,List.length_append,List.length_cons]
   have := ih (k + 1)
   split
   · simp only [List.length_singleton]; omega
   · simp only [List.length_nil]; omega
 exact this 0
theorem nA {l : List aG} : ∀ {sw : List aJ} {f g : List (List Int)},cW l f → goF f sw = some g → cW l g
 | [],f,g,s,e => by cases e; exact s
 | x :: sw,f,g,s,e => by
  rw [goF] at e
  split at e
  · exact nA (s.put x) e
  · cases e
theorem vG {l : List aG} {sw : List aJ} {e : Nat} : (gD l sw e).length ≤ l.length := by
 rw [gD]
 cases q : cS l sw e with
 | none => simp
 | some g => exact Nat.le_of_eq (nA (cW.start l) q).len
theorem mT {l : List aG} {sw : List aJ} {n : Int} : ∀ d,(cX l sw n d).length ≤ d * l.length
 | 0 => by simp [cX]
 | d + 1 => by
  have h1 := mT (l := l) (sw := sw) (n := n) d
  have h2 := @aAC l (gD l sw d) d n
  have h3 := @vG l sw d
  rw [cX,List.range_succ,List.flatMap_append,List.length_append,Nat.succ_mul]
  have h4 : (List.flatMap (fun e => jX l (gD l sw e) e n) (List.range d)).length = (cX l sw n d).length := rfl
  rw [h4]
  simp only [List.flatMap_cons,List.flatMap_nil,List.append_nil]
  omega
theorem sL : ∀ {l : List aG} {n0 : Nat} {acc : List Int},fS n0 acc l = true → ∀ t ∈ l,fJ n0 t = true
 | [],_,_,_,t,ht => by cases ht
 | x :: l,n0,acc,h,t,ht => by
  simp only [fS,Bool.and_eq_true] at h
  rcases List.mem_cons.1 ht with rfl | ht
  · exact h.1
  · exact sL h.2.2 t ht
structure TOK (l : List aG) : Prop where
 n : l.length ≤ 4
 e : fT l = true
theorem TOK.day {l : List aG} (k : TOK l) {t : aG} (ht : t ∈ l) : t.days.length = aO l ∧ aO l ≤ 30 ∧ t.ser.length ≤ 5 ∧ t.days.all cQ = true := by
 have := sL k.e t ht
 simp only [fJ,Bool.and_eq_true,decide_eq_true_eq] at this
 exact ⟨this.1.1,by omega,this.1.2.2,this.2⟩
theorem TOK.short {l : List aG} (k : TOK l) : jK l := ⟨by have := k.n; omega,fun t ht => by have := k.day ht; omega⟩
theorem TOK.d {l : List aG} (k : TOK l) : aO l ≤ 30 := by
 cases l with
 | nil => simp [aO,qZ]
 | cons t l => exact (k.day (t := t) (by simp)).2.1
theorem TOK.use {l : List aG} (k : TOK l) {i d : Nat} (hi : i < l.length) (hd : d < aO l) : cQ (dA l i d) = true := by
 have h := k.day (qG hi)
 rw [dA,aR hi,aR (by omega)]
 exact List.all_eq_true.1 h.2.2.2 _ (qG _)
theorem aAB {l : List aG} (k : TOK l) {g : List (List Int)} (hg : g.length ≤ l.length) {d : Nat} (hd : d < aO l) {n : Int} : ∀ u ∈ jX l g d n,cQ u = true := fun u hu => by
 obtain ⟨p,hp,hu⟩ := List.mem_flatMap.1 hu
 split at hu
 · rw [List.mem_singleton] at hu
   subst hu
   have := List.snd_lt_of_mem_zipIdx hp
   exact k.use (by omega) hd
 · cases hu
theorem qX {l : List aG} (k : TOK l) {sw : List aJ} {n : Int} {d : Nat} (hd : d ≤ aO l) : ∀ u ∈ cX l sw n d,cQ u = true := fun u hu => by
 obtain ⟨e,he,hu⟩ := List.mem_flatMap.1 hu
 have := List.mem_range.1 he
 exact aAB k vG (by omega) u hu
theorem sZ {l : List aG} {sw : List aJ} {n : Int} {d : Nat} : cX l sw n (d + 1) = cX l sw n d ++ jX l (gD l sw d) d n := by
 rw [cX,List.range_succ,List.flatMap_append]; simp [cX]
end Go.Proofs.Ab
namespace Go.Proofs
open Go.Shelf
noncomputable def aA5 : Ren where
 f := fun n => match n with
  | 125 => 80
  | 128 => 94
  | 129 => 95
  | 189 => 61
  | 215 => 96
  | 216 => 91
  | 257 => 79
  | 294 => 85
  | 295 => 86
  | 296 => 87
  | 297 => 88
  | 298 => 89
  | 299 => 90
  | 300 => 92
  | 301 => 93
  | 328 => 97
  | 329 => 98
  | 330 => 99
  | 331 => 100
  | 332 => 101
  | 343 => 102
  | n => n
 t := fun n => match n with
  | 0 => 0
  | 3 => 3
  | 4 => 4
  | 5 => 5
  | 9 => 9
  | 28 => 36
  | 46 => 155
  | 51 => 169
  | 53 => 171
  | 131 => 148
  | 182 => 161
  | 183 => 162
  | 218 => 172
  | 222 => 176
  | 228 => 178
  | 229 => 179
  | n => n
 g := fun n => n
theorem wT : Lays.n189 Try.prog aA5 := {
 mixed := by kernel_rfl
 f125 := by kernel_rfl
 f128 := by kernel_rfl
 f129 := by kernel_rfl
 f189 := by kernel_rfl
 f215 := by kernel_rfl
 f216 := by kernel_rfl
 f257 := by kernel_rfl
 f294 := by kernel_rfl
 f295 := by kernel_rfl
 f296 := by kernel_rfl
 f297 := by kernel_rfl
 f298 := by kernel_rfl
 f299 := by kernel_rfl
 f300 := by kernel_rfl
 f301 := by kernel_rfl
 f328 := by kernel_rfl
 f329 := by kernel_rfl
 f330 := by kernel_rfl
 f331 := by kernel_rfl
 f332 := by kernel_rfl
 f343 := by kernel_rfl
 t0 := by kernel_rfl
 a0 := fun w => by kernel_rfl
 z0 := fun w => by kernel_rfl
 v0 := fun w => by kernel_rfl
 t3 := by kernel_rfl
 a3 := fun w => by kernel_rfl
 z3 := fun w => by kernel_rfl
 v3 := fun w => by kernel_rfl
 t4 := by kernel_rfl
 a4 := fun w => by kernel_rfl
 z4 := fun w => by kernel_rfl
 v4 := fun w => by kernel_rfl
 t5 := by kernel_rfl
 a5 := fun w => by kernel_rfl
 z5 := fun w => by kernel_rfl
 v5 := fun w => by kernel_rfl
 t9 := by kernel_rfl
 a9 := fun w => by kernel_rfl
 z9 := fun w => by kernel_rfl
 v9 := fun w => by kernel_rfl
 t28 := by kernel_rfl
 a28 := fun w => by kernel_rfl
 z28 := fun w => by kernel_rfl
 v28 := fun w => by kernel_rfl
 t46 := by kernel_rfl
 a46 := fun w => by kernel_rfl
 z46 := fun w => by kernel_rfl
 v46 := fun w => by kernel_rfl
 t51 := by kernel_rfl
 a51 := fun w => by kernel_rfl
 z51 := fun w => by kernel_rfl
 v51 := fun w => by kernel_rfl
 t53 := by kernel_rfl
 a53 := fun w => by kernel_rfl
 z53 := fun w => by kernel_rfl
 v53 := fun w => by kernel_rfl
 t131 := by kernel_rfl
 a131 := fun w => by kernel_rfl
 z131 := fun w => by kernel_rfl
 v131 := fun w => by kernel_rfl
 t182 := by kernel_rfl
 a182 := fun w => by kernel_rfl
 z182 := fun w => by kernel_rfl
 v182 := fun w => by kernel_rfl
 t183 := by kernel_rfl
 a183 := fun w => by kernel_rfl
 z183 := fun w => by kernel_rfl
 v183 := fun w => by kernel_rfl
 t218 := by kernel_rfl
 a218 := fun w => by kernel_rfl
 z218 := fun w => by kernel_rfl
 v218 := fun w => by kernel_rfl
 t222 := by kernel_rfl
 a222 := fun w => by kernel_rfl
 z222 := fun w => by kernel_rfl
 v222 := fun w => by kernel_rfl
 t228 := by kernel_rfl
 a228 := fun w => by kernel_rfl
 z228 := fun w => by kernel_rfl
 v228 := fun w => by kernel_rfl
 t229 := by kernel_rfl
 a229 := fun w => by kernel_rfl
 z229 := fun w => by kernel_rfl
 v229 := fun w => by kernel_rfl }
end Go.Proofs
namespace Go.Proofs.Ab
open Go Go.Proofs
variable {w0 : World} {h : aA}
attribute [local irreducible] ACall bD dI bQ dH rvC lp rg dr ex un rv
theorem keysOk : KOk Try.prog 81 135 3 4 := ⟨by kernel_rfl,by kernel_rfl,by kernel_rfl,by kernel_rfl,by kernel_rfl,⟨3,34,by kernel_rfl⟩⟩
theorem keys_b : (Try.prog.funcs[62]?).bind (·.body) = some (kCode 81 135 3 4) := by kernel_rfl
theorem keys_r : ((Try.prog.funcs[62]?).map fun fn => (fn.results.toList.mapM (crv Try.prog),fn.ntmps)) = some (some [],14) := by kernel_rfl
theorem keys_h : aC Try.prog 62 = true := by kernel_rfl
def GI (h0 : aA) (n0 : Nat) (lb : Blk) (ps : List AV) (G : aA) : Prop :=
 ∃ sv io,n0 + 1 < io ∧ n0 + 1 < G.length ∧ G[n0]? = some (some (.row [sv])) ∧ G[n0 + 1]? = some (some lb) ∧ Gr2 G 1 ps.length io sv ps ∧ aH h0 G
theorem zA {p : Pl} {mi : Nat} {es : List (AV × AV)} (hp : rd w0 h p = some (.map mi)) (hm : h[mi]? = some (some (.map es))) (hk : ∀ e ∈ es,∃ n,e.1 = .int .i64 n) (hn : es.length ≤ 1000) :
 ACall Try.prog w0 78 [.nilS,.fn (.func 62) [] [.ptr p]] h fun v H => ∃ ks io,ks.Perm (es.map (·.1)) ∧ Gr2 H 1 ks.length io v ks ∧ aH h H ∧ h.length < io := by
 have hml := aQ hm
 refine cB aW aGe mf78_b mf78_g (qE rfl) fun hb ha => bT ?_
 simp only [go_sem,mf78]
 refine aFW [2,6] ?_
 simp only [go_sem]
 refine rg_use (fid := 62) (first := []) rfl (.inl rfl) fun hca hcb hps => ?_
 simp only [go_sem]
 obtain ⟨LB,hLB⟩ : ∃ LB : LoopState → Option Code → Blk,LB = Blk.loop 13 [(2,AV.ptr (Pl.own (List.length h) 0)),(6,AV.fn (Fn.func 62) [] [AV.ptr p])] #[7] (dF (iD 78) [1,0,1,0,0]) (dF (iD 78) [1,0,1,0,1]) := ⟨_,rfl⟩
 have hp' : rd w0 (h ++ [some (.row [.nilS]),some (LB .ready none)]) p = some (.map mi) := hU hp
 have hm' : (h ++ [some (Blk.row [AV.nilS]),some (LB .ready none)])[mi]? = some (some (.map es)) := aE hm
 rw [← hLB]
 refine aAo keysOk keys_b keys_r keys_h hp' hm' (fun e he => ⟨_,hk e he⟩) (I := GI (h.set mi none) h.length (LB .ready none)) ⟨.nilS,h.length + 2,by omega,by simp,?_,?_,.inl ⟨rfl,rfl,rfl⟩,?_⟩ ?_ ?_
 · rw [List.set_append_left _ _ hml,qI (by simp)]; simp
 · rw [List.set_append_left _ _ hml,qI (by simp)]; simp
 · rw [List.set_append_left _ _ hml]; exact aH.refl.app
 · rintro ps k G ⟨q,hq⟩ ⟨sv,io,g1,g2,g3,g4,g5,g6⟩
   obtain ⟨x,rfl⟩ : ∃ x,k = .int .i64 x := by
    have : k ∈ es.map (·.1) := hq.mem_iff.1 (by simp)
    obtain ⟨e,he,rfl⟩ := List.mem_map.1 this
    exact hk e he
   have hpl : ps.length < 1001 := by have := hq.length_eq; simp at this; omega
   have g4' := g4
   rw [hLB] at g4'
   refine zI (aC6 (psl := [7]) aW rfl aE1 aE0 aAP.eq_1 aAO.eq_1 g4' rfl hps hca hcb fun hb2 ha2 => ?_)
   simp only [go_sem]
   refine ⟨g4',?_⟩
   have a1 : (G.set (h.length + 1) (some (Blk.loop 13 [(2,AV.ptr (Pl.own (List.length h) 0)),(6,AV.fn (Fn.func 62) [] [AV.ptr p])] #[7] (dF (iD 78) [1,0,1,0,0]) (dF (iD 78) [1,0,1,0,1]) .busy none)))[h.length]? = some (some (.row [sv])) := by rw [qB (by omega)]; exact g3
   simp only [go_sem,a1]
   obtain ⟨LY,hLY⟩ : ∃ b,b = Blk.loop 13 [(2,AV.ptr (Pl.own (List.length h) 0)),(6,AV.fn (Fn.func 62) [] [AV.ptr p])] #[7] (dF (iD 78) [1,0,1,0,0]) (dF (iD 78) [1,0,1,0,1]) .busy none := ⟨_,rfl⟩
   rw [← hLY] at a1 ⊢
   obtain ⟨X,hX⟩ : ∃ X,X = G.set (h.length + 1) (some LY) ++ [some (Blk.row [AV.int .i64 x])] := ⟨_,rfl⟩
   have lX : X.length = G.length + 1 := by rw [hX]; simp
   have gX : ∀ i b,i ≠ h.length + 1 → G[i]? = some (some b) → X[i]? = some (some b) := fun i b hi e => by rw [hX]; exact aE (by rw [qB (fun e => hi e.symm)]; exact e)
   have gY : X[h.length + 1]? = some (some LY) := by rw [hX]; exact aE (qF g2)
   have gZ : X[G.length]? = some (some (.row [.int .i64 x])) := by rw [hX,qI (by simp)]; simp
   have gr : Gr2 X 1 ps.length io sv ps := by
    rcases g5 with h1 | ⟨h1,h2,h3,h4⟩
    · exact .inl h1
    · exact .inr ⟨h1,h2,gX _ _ (by omega) h3,h4⟩
   obtain ⟨G2,q1,q2,q3,q4⟩ := gr.more (w0 := w0) (b := 8) (f := true) gZ rfl rfl (by omega) (by omega)
   have gk : ∀ i b,i ≠ io → i < X.length → X[i]? = some (some b) → G2[i]? = some (some b) := fun i b hi hl e => by
    have e1 : (mk ps.length io X)[i]? = some (some b) := by
     unfold mk
     split
     · exact e
     · rw [qB (fun e => hi e.symm)]; exact e
    have e2 := q3.2 i b e1
    rw [mk,if_neg (by omega),qB (by omega)] at e2
    exact e2
   rw [← hX,q1]
   have b1 := gk _ _ (by omega) (by omega) (gX _ _ (by omega) g3)
   have b2 := gk _ _ (by omega) (by omega) gY
   have b3 : (G2.set h.length (some (.row [.sl (.own X.length 0) (ps.length + 1) 1 false])))[h.length + 1]? = some (some LY) := by rw [qB (by omega)]; exact b2
   simp only [go_sem,b1,b3]
   rw [hLY]
   simp only [go_sem]
   rw [hLB]
   refine ⟨.sl (.own X.length 0) (ps.length + 1) 1 false,X.length,by omega,by simp; omega,?_,?_,?_,?_⟩
   · rw [qB (by omega),qF (by omega)]
   · rw [qF (by simp; omega)]
   · rw [List.length_append]
     rcases q2 with h1 | ⟨h1,h2,h3,h4⟩
     · exact absurd h1.1 (by omega)
     · exact .inr ⟨h1,h2,by rw [qB (by omega),qB (by omega)]; exact h3,h4⟩
   · refine aH.setR (aH.setR ⟨by rw [List.length_set]; have := g6.1; simp at this; omega,fun i b e => ?_⟩ (by simp)) (by simp)
     have hi := aQ e
     rw [List.length_set] at hi
     exact gk _ _ (by omega) (by omega) (gX _ _ (by omega) (g6.2 i b e))
 · rintro ps G hq ⟨sv,io,g1,g2,g3,g4,g5,g6⟩ hgl
   have hne : io ≠ mi := by omega
   have g4' : (G.set mi (some (.map es)))[h.length + 1]? = some (some (LB .ready none)) := by rw [qB (by omega)]; exact g4
   rw [g4',hLB]
   have e1 : ((G.set mi (some (.map es))).set (h.length + 1) none)[h.length]? = some (some (.row [sv])) := by rw [qB (by omega),qB (by omega)]; exact g3
   simp only [go_sem,e1]
   have hsub : aH h (G.set mi (some (.map es))) := ⟨by rw [List.length_set]; have := g6.1; simpa using this,fun i b e => by
    by_cases q : mi = i
    · subst q
      rw [hm] at e
      rw [qF (by omega)]; exact e
    · rw [qB q]
      exact g6.2 i b (by rw [qB q]; exact e)⟩
   refine ⟨ps,io,hq,?_,hsub.setR (by omega),by omega⟩
   rcases g5 with h1 | ⟨h1,h2,h3,h4⟩
   · exact .inl h1
   · exact .inr ⟨h1,h2,by rw [qB (by omega),qB (by omega)]; exact h3,h4⟩
end Go.Proofs.Ab
namespace Go.Proofs.Ab
open Go Go.Proofs
variable {w0 : World} {h : aA}
theorem xN (zs : List Int) : (zs.mergeSort fun x y => decide (x ≤ y)) = fL zs := by
 refine aBh ((List.mergeSort_perm zs _).trans (cR zs).symm) ?_ jT
 have := List.pairwise_mergeSort (le := fun x y : Int => decide (x ≤ y)) (fun a b c h1 h2 => by simp at *; omega) (fun a b => by simp; omega) zs
 exact this.imp fun h => by simpa using h
theorem aCE {l : List Int} {k : Nat} {x : AV} (h : (bJ l)[k]? = some x) : ∃ z,l[k]? = some z ∧ x = .int .i64 z := by
 simp only [bJ,List.getElem?_map,qD] at h
 obtain ⟨z,h1,h2⟩ := h
 exact ⟨z,h1,h2.symm⟩
theorem aHs {α : Type} {a : Array α} {i : Nat} {x : α} (e : a[i]? = some x) : i < a.size := by
 rcases Nat.lt_or_ge i a.size with h | h
 · exact h
 · rw [Array.getElem?_eq_none h] at e; cases e
theorem sort_c {H : aA} {b : Nat} {zs : List Int} {f : Bool} (hb : H[b]? = some (some (.row (bJ zs)))) (hne : zs ≠ []) (hn : zs.length ≤ 1000) :
 ACall Try.prog w0 61 [.sl (.own b 0) zs.length 1 f] H fun v H' => v = .tup [] ∧ H' = H.set b (some (.row (bJ (fL zs)))) := by
 have hz0 : zs.length ≠ 0 := fun e => hne (List.eq_nil_of_length_eq_zero e)
 refine ⟨by kernel_rfl,fun m w vs s hvs hbd => callsIn_wide.2 ?_⟩
 obtain ⟨v1,r1,e1,h1,h2⟩ := hvs
 simp only [VRs] at h2
 subst h2
 simp only [VR] at h1
 obtain ⟨a,cap,rfl,hc1,_,hc2⟩ := h1
 obtain ⟨ha,hsz⟩ : a = m.pl (.own b 0) ∧ ∀ i off,Pl.own b 0 = .own i off → off + cap * 1 ≤ m.sz i := by
  rcases hc2 with h | h
  · omega
  · exact h
 have hsz := hsz b 0 rfl
 obtain ⟨g1,⟨ca,ty,g2,g3,g4⟩,_⟩ := s.at_ b _ hb
 have hvs' : vs = #[.slice (some a) zs.length cap] := by
  rw [← Array.toArray_toList (xs := vs),e1]
 have ha' : a = ⟨m.blk b,m.base b,none⟩ := by rw [ha]; rfl
 rw [hvs',ha']
 have hcv : ∀ k,(hk : k < zs.length) → ca[m.base b + k]? = some (.int .i64 zs[k]) := fun k hk => by
  obtain ⟨y,hy,hvr⟩ := g4 k (.int .i64 zs[k]) (by simp [bJ,hk])
  simp only [VR] at hvr
  rw [hy,hvr]
 have hH : Sort.Holds (Value.int .i64) w (m.blk b) (m.base b) zs.toArray := fun k hk => by
  have hk' : k < zs.length := by simpa using hk
  refine ⟨?_,by simp [World.frozen?,g2]⟩
  simp only [World.cell?,g2]
  rw [getElem!_pos _ k hk]
  simp only [Option.isSome_none,Bool.false_eq_true,if_false]
  rw [hcv k hk']
  simp
 have hlt : m.blk b < w.heap.size := s.lt hb
 have hS := Any.slices_Sort_int wT (m.blk b) (m.base b) cap zs w hH hlt (by omega)
 rw [xN] at hS
 refine Calls.mono (show Calls Try.prog 61 _ w _ from hS) fun e w' ⟨he,n,os,hw'⟩ => ?_
 obtain ⟨d,hd⟩ : ∃ d,d = (fL zs).toArray := ⟨_,rfl⟩
 rw [← hd] at hw'
 have dsz : d.size = zs.length := by rw [hd]; simpa using (cR zs).length_eq
 have j1 : w'.heap[m.blk b]? = some (.cells (Sort.putCells (Value.int .i64) (m.base b) d ca) ty (0,0)) := by
  rw [hw',Sort.heap_grow_old _ _ (by simpa [Sort.putRow,Sort.mapBlock,Sort.ahead] using hlt)]
  simp [Sort.putRow,Sort.mapBlock,Sort.ahead,Array.getElem?_modify,g2,Sort.onCells]
 have hsame : ∀ c,c < w.heap.size → c ≠ m.blk b → w'.heap[c]? = w.heap[c]? := fun c hc hne => by
  rw [hw',Sort.heap_grow_old _ _ (by simpa [Sort.putRow,Sort.mapBlock,Sort.ahead] using hc)]
  have hne' : ¬ m.blk b = c := fun e => hne e.symm
  simp [Sort.putRow,Sort.mapBlock,Sort.ahead,Array.getElem?_modify,hne']
 have hsize : w.heap.size ≤ w'.heap.size := by rw [hw']; simp [Sort.grow,Sort.putRow,Sort.mapBlock,Sort.ahead]
 have hnew : ∀ k,(hk : k < zs.length) → (Sort.putCells (Value.int .i64) (m.base b) d ca)[m.base b + k]? = ((fL zs)[k]?).map (Value.int .i64) := fun k hk => by
  have hkc : m.base b + k < ca.size := aHs (hcv k hk)
  have hks : k < (fL zs).length := by rw [(cR zs).length_eq]; exact hk
  simp only [Sort.putCells,Array.getElem?_mapIdx,Array.getElem?_eq_getElem hkc,Option.map_some]
  rw [if_pos (by omega),Nat.add_sub_cancel_left,getElem!_pos d k (by omega),qA hks]
  simp [hd]
 have hpsz : (Sort.putCells (Value.int .i64) (m.base b) d ca).size = ca.size := by simp [Sort.putCells]
 refine ⟨_,he,m,.tup [],H.set b (some (.row (bJ (fL zs)))),⟨⟨by have := s.size; omega,fun c hc => by rw [hsame c (by have := s.size; omega) (by omega)]; exact s.old c hc,fun t x hx => ?_,fun t u x y htu hx hy => ?_⟩,.refl _ _,⟨hsize,fun c hc hno => hsame c hc fun e => hno b _ hb e.symm,by rw [hw']; rfl,by rw [hw']; rfl,by rw [hw']; rfl⟩,by simp,fun t x hx hlt => ?_⟩,?_,trivial,rfl,rfl⟩
 · by_cases q : b = t
   · subst q
     rw [qF (aQ hb)] at hx
     cases hx
     refine ⟨g1,⟨_,ty,j1,by rw [hpsz,g3],fun k x hk => ?_⟩,?_⟩
     · obtain ⟨z,hz,rfl⟩ := aCE hk
       have hk2 : k < zs.length := by have := aQ hz; rwa [(cR zs).length_eq] at this
       exact ⟨.int .i64 z,by rw [hnew k hk2,hz]; rfl,by simp only [VR]⟩
     · rw [List.length_set]
       intro x hx
       simp only [bJ,List.mem_map] at hx
       obtain ⟨z,_,rfl⟩ := hx
       trivial
   · rw [qB q] at hx
     obtain ⟨a1,a2,a3⟩ := s.at_ t x hx
     rw [List.length_set]
     exact ⟨a1,by rw [hsame _ (s.lt hx) (s.inj t b x _ (fun e => q e.symm) hx hb)]; exact a2,a3⟩
 · have old : ∀ t x,(H.set b (some (.row (bJ (fL zs)))))[t]? = some (some x) → ∃ x',H[t]? = some (some x') := fun t x h => by
    by_cases q : b = t
    · subst q; exact ⟨_,hb⟩
    · rw [qB q] at h; exact ⟨x,h⟩
   obtain ⟨x',hx'⟩ := old t x hx
   obtain ⟨y',hy'⟩ := old u y hy
   exact s.inj t u x' y' htu hx' hy'
 · by_cases q : b = t
   · subst q; exact ⟨_,_,hb,rfl⟩
   · rw [qB q] at hx; exact ⟨t,x,hx,rfl⟩
 · simp only [VR]
   exact ⟨#[],rfl,by simp [VRs]⟩
end Go.Proofs.Ab
namespace Go.Proofs.Ab
open Go Go.Proofs
variable {w0 : World} {h : aA}
theorem len0_c : ACall Try.prog w0 80 [.int .u64 ((0 : Nat) : Int)] h fun v H => (∃ k,v = .int .i64 k) ∧ H = h := by
 refine ⟨by kernel_rfl,fun m w vs s hvs hbd => callsIn_wide.2 ?_⟩
 obtain ⟨v1,r1,e1,h1,h2⟩ := hvs
 simp only [VRs] at h2
 subst h2
 simp only [VR] at h1
 subst h1
 have hvs' : vs = #[.int .u64 0] := by
  rw [← Array.toArray_toList (xs := vs),e1]; rfl
 rw [hvs']
 have hL : Calls Try.prog 80 #[.int .u64 0] w _ := calls_of_every_depth fun D => AnyS.bits_LenIn (ρ := aA5) { wT with } D 0 w (by omega) (by omega)
 refine Calls.mono hL fun e w' ⟨he,hw⟩ => ?_
 subst hw
 exact ⟨_,he,m,.int .i64 (Lib.bitLen (Int.toNat 0)),h,aZ.refl s,by simp only [VR],trivial,⟨_,rfl⟩,rfl⟩
attribute [local irreducible] ACall bD dI bQ dH rvC lp rg dr ex un rv
theorem aHi : ACall Try.prog w0 85 [.nilS,.int .i64 0,.int .i64 0] h fun v H => v = .tup [] ∧ H = h := by
 refine oF aW aF8 mf85_b mf85_g (qE rfl) fun hb ha => bT ?_
 simp only [go_sem,mf85]
 refine ⟨(by unfold I64; omega),?_⟩
 refine aN aW aHG [0,1,2,6] L85_1.eq_1 ?_
 have e1 : ¬ (1 : Int) < 0 := by omega
 simp only [go_sem,e1]
 exact ⟨h,[],by simp,Nat.le_refl _,hb,trivial,rfl⟩
theorem pdq_n {q : Int} : ACall Try.prog w0 79 [.nilS,.int .i64 0,.int .i64 0,.int .i64 q] h fun v H => v = .tup [] ∧ H = h := by
 refine oF aW aGd mf79_b mf79_g (qE rfl) fun hb ha => bT ?_
 simp only [go_sem,mf79]
 refine aN aW aHH [0,1,2,3,8,9] L79_0.eq_1 ?_
 have e1 : (0 : Int) - 0 = 0 := by omega
 have e2 : (0 : Int) ≤ 12 := by omega
 simp only [go_sem,e1,e2]
 rw [List.append_nil]
 refine cH (ACall.vc (first := []) (args := [_,_,_]) aHi) ?_
 rintro _ _ ⟨rfl,rfl⟩
 simp only [go_sem]
 exact ⟨_,[],by simp,Nat.le_refl _,hb,trivial,rfl⟩
theorem Sort_n : ACall Try.prog w0 61 [.nilS] h fun v H => v = .tup [] ∧ H = h := by
 refine oF aW aGs mf61_b mf61_g (qE rfl) fun hb ha => bT ?_
 simp only [go_sem,mf61]
 rw [List.append_nil]
 have e1 : dJ .u64 0 = some (.int .u64 ((0 : Nat) : Int)) := rfl
 simp only [go_sem,e1]
 refine cH (ACall.vc (first := []) (args := [_]) len0_c) ?_
 rintro _ _ ⟨⟨q,rfl⟩,rfl⟩
 simp only [go_sem]
 refine cH (ACall.vc (first := []) (args := [_,_,_,_]) pdq_n) ?_
 rintro _ _ ⟨rfl,rfl⟩
 simp only [go_sem]
 exact ⟨_,[],by simp,Nat.le_refl _,hb,trivial,rfl⟩
theorem aCS {p : Pl} {mi : Nat} {es : List (AV × AV)} (hp : rd w0 h p = some (.map mi)) (hm : h[mi]? = some (some (.map es))) (hk : ∀ e ∈ es,∃ n,e.1 = .int .i64 n) (hn : es.length ≤ 1000) :
 ACall Try.prog w0 60 [.fn (.func 62) [] [.ptr p]] h fun v H => ∃ ks io,ks.Perm (es.map (·.1)) ∧ Gr2 H 1 ks.length io v ks ∧ aH h H ∧ h.length < io := by
 refine cB aW aGt mf60_b mf60_g (qE rfl) fun hb ha => bT ?_
 simp only [go_sem,mf60]
 rw [List.append_nil]
 refine cH (ACall.vc (first := []) (args := [_,_]) (zA hp hm hk hn)) ?_
 rintro v H hH
 simp only [go_sem]
 exact hH
theorem aDH {p : Pl} {mi : Nat} {M : List aD} (hp : rd w0 h p = some (.map mi)) (hm : h[mi]? = some (some (.map (eC M)))) (hn : M.length ≤ 1000) :
 ACall Try.prog w0 30 [.fn (.func 62) [] [.ptr p]] h fun v H => aH h H ∧ SlI w0 H v (fL (M.map aD.n)) := by
 refine cB aW aGU mf30_b mf30_g (qE rfl) fun hb ha => bT ?_
 simp only [go_sem,mf30]
 rw [List.append_nil]
 refine cH (ACall.vc (first := []) (args := [_]) (aCS hp hm (fun e he => by
  simp only [eC,List.mem_map] at he
  obtain ⟨k,_,rfl⟩ := he
  exact ⟨k.n,rfl⟩) (by simpa [eC] using hn))) ?_
 rintro v H ⟨kl,io,k1,k2,k3,k4⟩
 have k1' : kl.Perm (bJ (M.map aD.n)) := by
  have : (eC M).map (·.1) = bJ (M.map aD.n) := by simp [eC,bJ,List.map_map,Function.comp_def]
  rw [this] at k1; exact k1
 obtain ⟨xs,rfl⟩ : ∃ xs,kl = bJ xs := by
  have : ∀ l : List AV,(∀ x ∈ l,∃ n,x = AV.int .i64 n) → ∃ xs,l = bJ xs := fun l => by
   induction l with
   | nil => exact fun _ => ⟨[],rfl⟩
   | cons x l ih =>
    intro hx
    obtain ⟨n,rfl⟩ := hx x (by simp)
    obtain ⟨xs,rfl⟩ := ih fun y hy => hx y (by simp [hy])
    exact ⟨n :: xs,rfl⟩
  refine this kl fun x hx => ?_
  have := k1'.mem_iff.1 hx
  simp only [bJ,List.mem_map] at this
  obtain ⟨n,_,rfl⟩ := this
  exact ⟨n,rfl⟩
 have kp : xs.Perm (M.map aD.n) := by
  have f : List.Perm ((bJ xs).map fun x => match x with | .int _ n => n | _ => 0) ((bJ (M.map aD.n)).map fun x => match x with | .int _ n => n | _ => 0) := k1'.map _
  simpa [bJ,Function.comp_def] using f
 have hxl : (bJ xs).length = xs.length := by simp [bJ]
 rw [hxl] at k2
 have hsort : fL xs = fL (M.map aD.n) := aBh ((cR xs).trans (kp.trans (cR _).symm)) jT jT
 have hxl2 : xs.length ≤ 1000 := by have := kp.length_eq; simp at this; omega
 rcases k2 with ⟨k5,rfl,_⟩ | ⟨k5,rfl,k6,_⟩
 · obtain rfl : xs = [] := List.length_eq_zero_iff.1 k5
   simp only [go_sem]
   refine cH (ACall.vc (first := []) (args := [_]) Sort_n) ?_
   rintro _ _ ⟨rfl,rfl⟩
   simp only [go_sem]
   refine ⟨k3,?_⟩
   rw [← hsort]
   exact .inl ⟨rfl,rfl⟩
 · simp only [go_sem]
   have hne : xs ≠ [] := fun e => k5 (by rw [e]; rfl)
   refine cH (ACall.vc (first := []) (args := [_]) (sort_c k6 hne hxl2)) ?_
   rintro _ _ ⟨rfl,rfl⟩
   simp only [go_sem]
   rw [← hsort]
   exact ⟨k3.setR (by omega),aA6 (qF (aQ k6)) (by rw [(cR xs).length_eq])⟩
end Go.Proofs.Ab

/- The own layer under the proofs of this seat, part P: what calls of the program come to on an abstract heap. No condition. -/
import Derived.Test.YtajecdfdnlfndaaGreatO
set_option linter.unusedSimpArgs false
set_option linter.unusedVariables false
namespace Go.Proofs.Ab
open Go Go.Proofs
variable {w0 : World} {h : aA}
attribute [local irreducible] ACall bF cU aZ dN rvC lp rg dr ex un rv
theorem tW {H : aA} {m n io k : Nat} {ov : AV} {vs x : List AV} {f : Bool} (hov : n = 0 ∧ ov = .nilS ∧ vs = [] ∨ n ≠ 0 ∧ ov = .sl (.own io 0) n 1 false ∧ H[io]? = some (some (.row vs)) ∧ vs.length = n)
 (hk : H[k]? = some (some (.row x))) (hx : x.length = m) (hm : m ≠ 0) (ho : x.all one = true) (hn : n + m ≤ 1000000000) :
 ∃ G,bT w0 H 1 24 ov (.sl (.own k 0) m 1 f) = some (.sl (.own H.length 0) (n + m) 1 false,G) ∧ ((n = 0 ∧ G = H ++ [some (.row x)]) ∨ (n ≠ 0 ∧ G = H.set io none ++ [some (.row (vs ++ x))])) := by
 have r1 : rdn w0 H (.own k 0) (m * 1) = some x := by
  simp only [rdn,hk]; simp [hx]; rw [← hx]; simp
 rcases hov with ⟨h1,h2,h3⟩ | ⟨h1,h2,h3,h4⟩
 · subst h1; subst h2; subst h3
   refine ⟨_,?_,.inl ⟨rfl,rfl⟩⟩
   simp only [bT,dF,dD,if_true,r1,Option.map_some,Option.bind_some]
   rw [if_neg hm,if_pos ⟨by omega,ho⟩]
   simp [eD]
 · have hlt := aI h3
   have r2 : rdn w0 H (.own io 0) (n * 1) = some vs := by
    simp only [rdn,h3]; simp [h4]; rw [← h4]; simp
   refine ⟨_,?_,.inr ⟨h1,rfl⟩⟩
   rw [h2]
   simp only [bT,dF,dD,if_true,r1,Option.map_some,Option.bind_some]
   rw [if_neg hm,if_pos ⟨trivial,by omega,ho⟩]
   simp only [Bool.false_eq_true,if_false,r2,Option.bind_some]
def LJ (w0 : World) (B : aA) (sv : AV) (x : List Int) : Prop := SlI w0 B sv x ∧ (x = [] → sv = .nilS)
theorem LJ.sub {B C : aA} {sv : AV} {x : List Int} (a : LJ w0 B sv x) (s : aF B C) : LJ w0 C sv x := ⟨Sl.sub a.1 s,a.2⟩
def SLL (w0 : World) (H : aA) (v : AV) (ls : List (List Int)) : Prop := ∃ c : List AV,Sl w0 H 1 v (c.map fun x => [x]) ∧ c.length = ls.length ∧ ∀ (j : Nat) x,ls[j]? = some x → ∃ sv,c[j]? = some sv ∧ LJ w0 H sv x
theorem SLL.sub {G H : aA} {v : AV} {ls : List (List Int)} (a : SLL w0 G v ls) (s : aF G H) : SLL w0 H v ls := by
 obtain ⟨c,h1,h2,h3⟩ := a
 exact ⟨c,h1.sub s,h2,fun j x hx => by
  obtain ⟨sv,g1,g2⟩ := h3 j x hx
  exact ⟨sv,g1,LJ.sub g2 s⟩⟩
theorem SLL.len {H : aA} {v : AV} {ls : List (List Int)} (a : SLL w0 H v ls) : gJ v = some (.int .i64 ls.length) := by
 obtain ⟨c,h1,h2,_⟩ := a
 have := h1.use.1
 rwa [List.length_map,h2] at this
theorem SLL.at_ {H : aA} {v : AV} {ls : List (List Int)} (a : SLL w0 H v ls) {j : Nat} (hj : j < ls.length) : ∃ (p : Pl) (sv : AV),eQ 1 v (some j) = some (.ptr p) ∧ (∀ L,rd w0 (H ++ L) p = some sv) ∧ rd w0 H p = some sv ∧ LJ w0 H sv ls[j] := by
 obtain ⟨c,h1,h2,h3⟩ := a
 obtain ⟨_,q,hix,hrow,_⟩ := h1.use
 rw [List.length_map] at hix
 obtain ⟨sv,g1,g2⟩ := h3 j _ (qA hj)
 have r := hrow j [sv] (by rw [List.getElem?_map,g1]; rfl)
 have r2 : rd w0 H (q.add (j * 1)) = some sv := by
  have := pT r (o := 0) rfl
  rwa [Pl.add_add,Nat.add_zero] at this
 exact ⟨q.add (j * 1),sv,hix j (by omega),fun L => eW r2,r2,g2⟩
def LL (w0 : World) (h H : aA) (ov : AV) (ls : List (List Int)) : Prop := (ov = .nilS ∧ ls = [] ∧ aF h H) ∨ ∃ (io : Nat) (c : List AV),ls ≠ [] ∧ ov = .sl (.own io 0) ls.length 1 false ∧ H[io]? = some (some (.row c)) ∧ c.length = ls.length ∧ aF h (H.set io none) ∧ ∀ (j : Nat) x,ls[j]? = some x → ∃ sv,c[j]? = some sv ∧ LJ w0 (H.set io none) sv x
theorem LL.hsub {H : aA} {ov : AV} {ls : List (List Int)} (a : LL w0 h H ov ls) : aF h H := by
 rcases a with ⟨_,_,h1⟩ | ⟨io,c,_,_,_,_,h1,_⟩
 · exact h1
 · exact h1.trans aF.msk
theorem zA {H : aA} {b : Nat} {c : List AV} {f : Bool} (hb : H[b]? = some (some (.row c))) : Sl w0 H 1 (.sl (.own b 0) c.length 1 f) (c.map fun x => [x]) := by
 refine .inr ⟨.own b 0,f,⟨1,by rw [List.length_map],dD⟩,aI hb,fun j x hx => ?_⟩
 rw [List.getElem?_map] at hx
 obtain ⟨y,hy,rfl⟩ := qD.1 hx
 have hj := aI hy
 simp only [Pl.add,rdn,hb,Nat.zero_add,Nat.mul_one]
 rw [if_pos (by omega),List.drop_eq_getElem_cons hj]
 have : c[j] = y := by rw [qA hj] at hy; exact Option.some.inj hy
 simp [this]
theorem LL.sll {H : aA} {ov : AV} {ls : List (List Int)} (a : LL w0 h H ov ls) : SLL w0 H ov ls := by
 rcases a with ⟨rfl,rfl,h1⟩ | ⟨io,c,h1,rfl,h3,h4,h5,h6⟩
 · exact ⟨[],.inl ⟨rfl,rfl⟩,rfl,by simp⟩
 · refine ⟨c,?_,h4,fun j x hx => ?_⟩
   · rw [← h4]; exact zA h3
   · obtain ⟨sv,g1,g2⟩ := h6 j x hx
     exact ⟨sv,g1,LJ.sub g2 aF.msk⟩
theorem LL.more {H H1 : aA} {ov : AV} {ls ms : List (List Int)} {k : Nat} {c2 : List AV} {f : Bool} (a : LL w0 h H ov ls) (hsm : aF H H1)
 (hk : H1[k]? = some (some (.row c2))) (hc : c2.length = ms.length) (hm : ms ≠ []) (hn : ls.length + ms.length ≤ 1000000000) (ho : c2.all one = true)
 (els : ∀ (j : Nat) x,ms[j]? = some x → ∃ sv,c2[j]? = some sv ∧ ∀ G : aA,(∀ i b,H.length ≤ i → H1[i]? = some (some b) → G[i]? = some (some b)) → LJ w0 G sv x) :
 ∃ G,bT w0 H1 1 24 ov (.sl (.own k 0) ms.length 1 f) = some (.sl (.own H1.length 0) (ls.length + ms.length) 1 false,G) ∧ LL w0 h G (.sl (.own H1.length 0) (ls.length + ms.length) 1 false) (ls ++ ms) := by
 have hml : ms.length ≠ 0 := fun e => hm (List.eq_nil_of_length_eq_zero e)
 have hl := hsm.1
 rcases a with ⟨rfl,rfl,h1⟩ | ⟨io,c,h1,rfl,h3,h4,h5,h6⟩
 · obtain ⟨G,g1,g2⟩ := tW (w0 := w0) (H := H1) (m := ms.length) (n := 0) (io := 0) (k := k) (ov := .nilS) (vs := []) (f := f) (.inl ⟨rfl,rfl,rfl⟩) hk hc hml ho (by simpa using hn)
   rcases g2 with ⟨_,rfl⟩ | ⟨g2,_⟩
   · refine ⟨_,by simpa using g1,.inr ⟨H1.length,c2,by simpa using hm,by simp,by rw [qI (Nat.le_refl _),Nat.sub_self]; rfl,by simpa using hc,?_,fun j x hx => ?_⟩⟩
     · exact (h1.trans (hsm.app)).setR (Nat.le_trans h1.1 hl)
     · rw [List.nil_append] at hx
       obtain ⟨sv,e1,e2⟩ := els j x hx
       refine ⟨sv,e1,e2 _ fun i b _ hb => ?_⟩
       rw [qB (by have := aI hb; omega)]
       exact aC hb
   · exact absurd rfl g2
 · have hio := aI h3
   have h3' : H1[io]? = some (some (.row c)) := hsm.2 _ _ h3
   obtain ⟨G,g1,g2⟩ := tW (w0 := w0) (H := H1) (m := ms.length) (n := ls.length) (io := io) (k := k) (f := f) (.inr ⟨fun e => h1 (List.eq_nil_of_length_eq_zero e),rfl,h3',h4⟩) hk hc hml ho hn
   rcases g2 with ⟨g2,_⟩ | ⟨_,rfl⟩
   · exact absurd (List.eq_nil_of_length_eq_zero g2) h1
   · have hG : aF (H.set io none) ((H1.set io none ++ [some (Blk.row (c ++ c2))]).set H1.length none) := by
      refine aF.setR ?_ (by rw [List.length_set]; exact hl)
      refine aF.app ⟨by rw [List.length_set,List.length_set]; exact hl,fun i b e => ?_⟩
      by_cases q : i = io
      · subst q; rw [qF hio] at e; cases e
      · rw [qB (fun e => q e.symm)] at e ⊢
        exact hsm.2 _ _ e
     refine ⟨_,g1,.inr ⟨H1.length,c ++ c2,by simp [h1],by simp,?_,by simp [h4,hc],h5.trans hG,fun j x hx => ?_⟩⟩
     · rw [qI (by simp)]; simp
     · by_cases hj : j < ls.length
       · rw [qH hj] at hx
         obtain ⟨sv,e1,e2⟩ := h6 j x hx
         exact ⟨sv,by rw [qH (by omega)]; exact e1,LJ.sub e2 hG⟩
       · rw [qI (by omega)] at hx
         obtain ⟨sv,e1,e2⟩ := els _ x hx
         refine ⟨sv,by rw [qI (by omega),h4]; exact e1,e2 _ fun i b hi hb => ?_⟩
         rw [qB (by have := aI hb; omega)]
         refine aC ?_
         rw [qB (by omega)]; exact hb
theorem aBc {H : aA} {b n : Nat} {c : List AV} {ls : List (List Int)} {f : Bool} (hb : H[b]? = some (some (.row c))) (hn : n = ls.length) (hc : c.length = ls.length) (e : ∀ (j : Nat) x,ls[j]? = some x → ∃ sv,c[j]? = some sv ∧ LJ w0 H sv x) : SLL w0 H (.sl (.own b 0) n 1 f) ls := by
 subst hn
 exact ⟨c,by rw [← hc]; exact zA hb,hc,e⟩
theorem four {α β : Type} {P : α → β → Prop} {a b c d : α} {x y z u : β} (h1 : P a x) (h2 : P b y) (h3 : P c z) (h4 : P d u) : ∀ (j : Nat) v,[x,y,z,u][j]? = some v → ∃ s,[a,b,c,d][j]? = some s ∧ P s v := fun j v hv => by
 match j,hv with
 | 0,hv => cases hv; exact ⟨a,rfl,h1⟩
 | 1,hv => cases hv; exact ⟨b,rfl,h2⟩
 | 2,hv => cases hv; exact ⟨c,rfl,h3⟩
 | 3,hv => cases hv; exact ⟨d,rfl,h4⟩
 | j + 4,hv => cases hv
def pL (p : Int × Int) : List Int := [p.1,p.2]
theorem uX (w : bJ) : ACall Tryz.prog w0 107 [.agg w.c] h fun y H => aF h H ∧ SLL w0 H y ((cM w).map pL) := by
 refine bA aU aCj aFH aFG (qE rfl) fun hb ha => aY ?_
 simp only [go_sem,mf107]
 refine ⟨aF.refl.app,?_⟩
 have at' : ∀ (k : Nat) x,([some (Blk.row w.c),some (Blk.row [.int .i64 w.xl,.int .i64 w.yl]),some (Blk.row [.int .i64 w.xl,.int .i64 w.yh]),some (Blk.row [.int .i64 w.xh,.int .i64 w.yl]),some (Blk.row [.int .i64 w.xh,.int .i64 w.yh]),some (Blk.row [.sl (.own (h.length + 1) 0) 2 1 true,.sl (.own (h.length + 2) 0) 2 1 true,.sl (.own (h.length + 3) 0) 2 1 true,.sl (.own (h.length + 4) 0) 2 1 true])] : aA)[k]? = some x → (h ++ [some (Blk.row w.c),some (Blk.row [.int .i64 w.xl,.int .i64 w.yl]),some (Blk.row [.int .i64 w.xl,.int .i64 w.yh]),some (Blk.row [.int .i64 w.xh,.int .i64 w.yl]),some (Blk.row [.int .i64 w.xh,.int .i64 w.yh]),some (Blk.row [.sl (.own (h.length + 1) 0) 2 1 true,.sl (.own (h.length + 2) 0) 2 1 true,.sl (.own (h.length + 3) 0) 2 1 true,.sl (.own (h.length + 4) 0) 2 1 true])])[h.length + k]? = some x := fun k x hx => by
  rw [qI (by omega),show h.length + k - h.length = k by omega]; exact hx
 refine aBc (at' 5 _ rfl) rfl rfl (four (P := fun s v => LJ w0 _ s v) ?_ ?_ ?_ ?_)
 · exact ⟨eO (at' 1 _ rfl) rfl,fun e => absurd e (by simp [pL])⟩
 · exact ⟨eO (at' 2 _ rfl) rfl,fun e => absurd e (by simp [pL])⟩
 · exact ⟨eO (at' 3 _ rfl) rfl,fun e => absurd e (by simp [pL])⟩
 · exact ⟨eO (at' 4 _ rfl) rfl,fun e => absurd e (by simp [pL])⟩
theorem els4 {H H1 : aA} {n : Nat} {x y z u : List Int} (hx : H1[n]? = some (some (.row (dG x)))) (hy : H1[n + 1]? = some (some (.row (dG y)))) (hz : H1[n + 2]? = some (some (.row (dG z)))) (hu : H1[n + 3]? = some (some (.row (dG u)))) (hn : H.length ≤ n) (l1 : x.length = 2) (l2 : y.length = 2) (l3 : z.length = 2) (l4 : u.length = 2) :
 ∀ (j : Nat) v,[x,y,z,u][j]? = some v → ∃ s,[AV.sl (.own n 0) 2 1 true,.sl (.own (n + 1) 0) 2 1 true,.sl (.own (n + 2) 0) 2 1 true,.sl (.own (n + 3) 0) 2 1 true][j]? = some s ∧ ∀ G : aA,(∀ i b,H.length ≤ i → H1[i]? = some (some b) → G[i]? = some (some b)) → LJ w0 G s v :=
 four (P := fun s v => ∀ G : aA,(∀ i b,H.length ≤ i → H1[i]? = some (some b) → G[i]? = some (some b)) → LJ w0 G s v)
  (fun G k => ⟨eO (k _ _ (by omega) hx) l1.symm,fun e => by rw [e] at l1; cases l1⟩) (fun G k => ⟨eO (k _ _ (by omega) hy) l2.symm,fun e => by rw [e] at l2; cases l2⟩) (fun G k => ⟨eO (k _ _ (by omega) hz) l3.symm,fun e => by rw [e] at l3; cases l3⟩) (fun G k => ⟨eO (k _ _ (by omega) hu) l4.symm,fun e => by rw [e] at l4; cases l4⟩)
theorem LL.more4 {H : aA} {ov : AV} {ls : List (List Int)} (a : LL w0 h H ov ls) (hn : ls.length ≤ 1000) (x1 x2 y1 y2 z1 z2 u1 u2 : Int) :
 ∃ G,bT w0 (H ++ [some (Blk.row [.int .i64 x1,.int .i64 x2]),some (Blk.row [.int .i64 y1,.int .i64 y2]),some (Blk.row [.int .i64 z1,.int .i64 z2]),some (Blk.row [.int .i64 u1,.int .i64 u2]),some (Blk.row [.sl (.own H.length 0) 2 1 true,.sl (.own (H.length + 1) 0) 2 1 true,.sl (.own (H.length + 2) 0) 2 1 true,.sl (.own (H.length + 3) 0) 2 1 true])]) 1 24 ov (.sl (.own (H.length + 4) 0) 4 1 true)
  = some (.sl (.own (H.length + 5) 0) (ls.length + 4) 1 false,G) ∧ LL w0 h G (.sl (.own (H.length + 5) 0) (ls.length + 4) 1 false) (ls ++ [pL (x1,x2),pL (y1,y2),pL (z1,z2),pL (u1,u2)]) := by
 obtain ⟨H1,e⟩ : ∃ H1,H1 = H ++ [some (Blk.row [.int .i64 x1,.int .i64 x2]),some (Blk.row [.int .i64 y1,.int .i64 y2]),some (Blk.row [.int .i64 z1,.int .i64 z2]),some (Blk.row [.int .i64 u1,.int .i64 u2]),some (Blk.row [.sl (.own H.length 0) 2 1 true,.sl (.own (H.length + 1) 0) 2 1 true,.sl (.own (H.length + 2) 0) 2 1 true,.sl (.own (H.length + 3) 0) 2 1 true])] := ⟨_,rfl⟩
 have hl : H1.length = H.length + 5 := by rw [e]; simp
 have at' : ∀ (k : Nat),H1[H.length + k]? = ([some (Blk.row [.int .i64 x1,.int .i64 x2]),some (Blk.row [.int .i64 y1,.int .i64 y2]),some (Blk.row [.int .i64 z1,.int .i64 z2]),some (Blk.row [.int .i64 u1,.int .i64 u2]),some (Blk.row [.sl (.own H.length 0) 2 1 true,.sl (.own (H.length + 1) 0) 2 1 true,.sl (.own (H.length + 2) 0) 2 1 true,.sl (.own (H.length + 3) 0) 2 1 true])] : aA)[k]? := fun k => by
  rw [e,qI (by omega),show H.length + k - H.length = k by omega]
 have := LL.more (f := true) (ms := [pL (x1,x2),pL (y1,y2),pL (z1,z2),pL (u1,u2)]) a (H1 := H1) (e ▸ aF.refl.app) (at' 4) rfl (by simp) (by simp; omega) rfl
  (els4 (H := H) (H1 := H1) (n := H.length) (at' 0) (at' 1) (at' 2) (at' 3) (Nat.le_refl _) rfl rfl rfl rfl)
 rw [hl] at this
 rw [← e]
 exact this
theorem aDM {v : AV} {l : List aD} (hv : Sl w0 h 3 v (l.map aD.c)) (hl : l.all bC = true) (hn : l.length ≤ 20) : ACall Tryz.prog w0 108 [v] h fun y H => aF h H ∧ SLL w0 H y ((cY l).map pL) := by
 refine bA aU aCi aFF aFE (qE rfl) fun hb ha => aY ?_
 obtain ⟨hlen,q,hix,hrow,_⟩ := hv.use
 rw [List.length_map] at hlen hix
 simp only [go_sem,mf108]
 refine cD (S := Nat × aA × AV) (F := fun t => [(0,v),(3,t.2.2),(4,.int .i64 t.1)]) (H := fun t => t.2.1) (meas := fun t => l.length - t.1) (Inv := fun t => t.1 ≤ l.length ∧ LL w0 h t.2.1 t.2.2 (((l.take t.1).flatMap gC).map pL)) (0,h,.nilS) ⟨Nat.zero_le _,.inl ⟨rfl,by simp,aF.refl⟩⟩ rfl (by simp) ?_
 rintro ⟨j,H,ov⟩ ⟨hj,hG⟩ ih
 simp only at hj hG ih ⊢
 have hle : (((l.take j).flatMap gC).map pL).length = 4 * j := by
  rw [List.length_map,List.length_flatMap]
  have : (l.take j).map (fun a => (gC a).length) = List.replicate j 4 := by
   rw [List.eq_replicate_iff]
   exact ⟨by rw [List.length_map,List.length_take]; omega,fun b hb => by obtain ⟨r,_,rfl⟩ := List.mem_map.1 hb; rfl⟩
  rw [this]; simp; omega
 have hs := hG.hsub
 refine aV aU aDe [0,3,4] L108_0.eq_1 ?_
 by_cases hjl : j < l.length
 · have e1 : (j : Int) < l.length := by omega
   have e2 := hix j hjl
   have r0 := hs.rdn (hrow j _ (fZ hjl))
   have e3 : ∀ o x,l[j].c[o]? = some x → ∀ L,rd w0 (H ++ L) ((q.add (j * 3)).add o) = some x := fun o x hx L => eW (pT r0 (o := o) hx)
   have f0 := e3 0 _ rfl
   have f1 := e3 1 _ rfl
   have f0' := f0 []
   have f1' := f1 []
   rw [List.append_nil] at f0' f1'
   have hR := List.all_eq_true.1 hl _ (qG hjl)
   simp only [bC,inB,Bool.and_eq_true,decide_eq_true_eq] at hR
   obtain ⟨r,hr⟩ : ∃ r,r = l[j] := ⟨_,rfl⟩
   rw [← hr] at f0 f1 f0' f1' hR
   simp only [go_sem,hlen,e1,e2,f0,f1,f0',f1']
   refine ⟨(by unfold I64; omega),(by unfold I64; omega),(by unfold I64; omega),(by unfold I64; omega),?_⟩
   obtain ⟨G,e5,e6⟩ := hG.more4 (by omega) (0 - r.y) r.x r.y (0 - r.x) r.x r.y (0 - r.x) (0 - r.y)
   rw [e5]
   simp only [go_sem]
   refine ⟨(by unfold I64; omega),ih (j + 1,G,_) ⟨by simp only; omega,?_⟩ (by simp only; omega)⟩
   simp only
   rw [List.take_succ_eq_append_getElem hjl,List.flatMap_append,List.map_append,← hr]
   simpa [gC] using e6
 · have e1 : ¬ (j : Int) < l.length := by omega
   obtain rfl : j = l.length := by omega
   rw [List.take_length] at hG hle
   simp only [go_sem,hlen,e1]
   obtain ⟨G,e5,e6⟩ := hG.more4 (by omega) 1 0 (-1) 0 0 1 0 (-1)
   rw [e5]
   simp only [go_sem]
   have e7 := e6.sll
   exact ⟨e6.hsub,by rw [cY,List.map_append]; exact e7⟩
theorem wS {H : aA} {sv : AV} {f : Int × Int} (a : SlI w0 H sv (pL f)) : ∃ p0 p1 : Pl,eQ 1 sv (some 0) = some (.ptr p0) ∧ eQ 1 sv (some 1) = some (.ptr p1) ∧ rd w0 H p0 = some (.int .i64 f.1) ∧ rd w0 H p1 = some (.int .i64 f.2) := by
 obtain ⟨p0,a1,_,a3⟩ := a.at_ (j := 0) (by simp [pL])
 obtain ⟨p1,b1,_,b3⟩ := a.at_ (j := 1) (by simp [pL])
 exact ⟨p0,p1,a1,b1,a3,b3⟩
theorem aCJ (l : List aD) : (cY l).length = 4 * l.length + 4 := by
 rw [cY,List.length_append,List.length_flatMap]
 have : l.map (fun a => (gC a).length) = List.replicate l.length 4 := by
  rw [List.eq_replicate_iff]
  exact ⟨by rw [List.length_map],fun b hb => by obtain ⟨r,_,rfl⟩ := List.mem_map.1 hb; rfl⟩
 rw [this]; simp [kK]; omega
set_option maxRecDepth 20000 in
theorem pW (w : bJ) {v : AV} {l : List aD} (hv : Sl w0 h 3 v (l.map aD.c)) (hl : l.all bC = true) (hn : l.length ≤ 20) (hw : fG w = true) :
 aZ Tryz.prog w0 57 [v,.agg w.c] h (.tup (cX (bS l w))) h := by
 have hbv : ∀ N,(AV.tup (cX (bS l w))).bdd N := fun N => by
  unfold cX; split <;> simp [AV.bdd,AV.bdds]
 refine cP (hbv _) (bA aU aEm mf57_b mf57_g (qE rfl) fun hb ha => aY ?_)
 have hdl := aCJ l
 simp only [go_sem,mf57]
 obtain ⟨X,hX⟩ : ∃ X,X = h ++ [some (Blk.row [AV.int IntKind.i64 w.xl,AV.int IntKind.i64 w.xh,AV.int IntKind.i64 w.yl,AV.int IntKind.i64 w.yh]),some (Blk.row [AV.int IntKind.i64 0,AV.int IntKind.i64 0,AV.int IntKind.i64 0,AV.int IntKind.i64 0])] := ⟨_,rfl⟩
 have hXs : aF h X := hX ▸ aF.refl.app
 have hX1 : X[h.length + 1]? = some (some (Blk.row [AV.int IntKind.i64 0,AV.int IntKind.i64 0,AV.int IntKind.i64 0,AV.int IntKind.i64 0])) := by rw [hX,qI (by omega),show h.length + 1 - h.length = 1 by omega]; rfl
 rw [← hX]
 refine aW (ACall.vc (first := []) (args := [.agg w.c]) (uX w)) ?_
 rintro cv H1 ⟨s1,hc1⟩
 simp only [go_sem]
 refine aW (ACall.vc (first := []) (args := [v]) (aDM (hv.sub (hXs.trans s1)) hl hn)) ?_
 rintro dv H2 ⟨s2,hd2⟩
 have hc2 := hc1.sub s2
 have hX2 := s1.trans s2
 simp only [go_sem]
 have hlc : gJ cv = some (.int .i64 4) := hc2.len
 have hld := hd2.len
 rw [List.length_map] at hld
 refine cD (S := Nat × aA) (F := fun t => [(0,v),(5,.ptr (.own (h.length + 1) 0)),(6,cv),(7,dv),(8,.int .i64 t.1)]) (H := fun t => t.2) (meas := fun t => 4 - t.1) (Inv := fun t => t.1 ≤ 4 ∧ aF H2 t.2 ∧ bS l w = ((cM w).drop t.1).findSome? fun f => (eJ l f).map fun d => (f,d)) (0,H2) ⟨Nat.zero_le _,aF.refl,rfl⟩ rfl (by simp) ?_
 rintro ⟨i,H⟩ ⟨hi,hs,hH⟩ ih
 simp only at hi hs hH ih ⊢
 refine aV aU aGe [0,5,6,7,8] L57_1.eq_1 ?_
 by_cases hi4 : i < 4
 · have e1 : (i : Int) < 4 := by omega
   have hcl : i < (cM w).length := hi4
   rw [List.drop_eq_getElem_cons hcl,List.findSome?_cons] at hH
   obtain ⟨f,hf⟩ : ∃ f,f = (cM w)[i]'hcl := ⟨_,rfl⟩
   have hfb : Bd 1000000 f := hf ▸ nI hw _ (qG hcl)
   rw [← hf] at hH
   simp only [go_sem,hlc,e1]
   refine cD (S := Nat × aA) (F := fun t => [(0,v),(5,.ptr (.own (h.length + 1) 0)),(6,cv),(7,dv),(8,.int .i64 i),(9,.int .i64 t.1)]) (H := fun t => t.2) (meas := fun t => (cY l).length - t.1) (Inv := fun t => t.1 ≤ (cY l).length ∧ aF H2 t.2 ∧ eJ l f = ((cY l).drop t.1).find? (kI l f)) (0,H) ⟨Nat.zero_le _,hs,rfl⟩ rfl (by simp) ?_
   rintro ⟨j,K⟩ ⟨hj,hk,hF⟩ ih2
   simp only at hj hk hF ih2 ⊢
   refine aV aU aGf [0,5,6,7,8,9] L57_0.eq_1 ?_
   by_cases hjl : j < (cY l).length
   · have e2 : (j : Int) < (cY l).length := by omega
     rw [List.drop_eq_getElem_cons hjl,List.find?_cons] at hF
     obtain ⟨p,sv,i1,r1,r1',hsv⟩ := (hc2.sub hk).at_ (j := i) (by rw [List.length_map]; exact hcl)
     obtain ⟨p2,sv2,i2,r2,r2',hsv2⟩ := (hd2.sub hk).at_ (j := j) (by rw [List.length_map]; exact hjl)
     rw [List.getElem_map] at hsv hsv2
     obtain ⟨d,hd⟩ : ∃ d,d = (cY l)[j] := ⟨_,rfl⟩
     have hdb : Bd 100 d := hd ▸ yP hl _ (qG hjl)
     rw [← hf] at hsv
     rw [← hd] at hsv2 hF
     obtain ⟨p3,p4,i3,i4,r3,r4⟩ := wS hsv.1
     obtain ⟨p5,p6,i5,i6,r5,r6⟩ := wS hsv2.1
     have g3 := fun L : aA => eW (l := L) r3
     have g4 := fun L : aA => eW (l := L) r4
     have g5 := fun L : aA => eW (l := L) r5
     have g6 := fun L : aA => eW (l := L) r6
     simp only [go_sem,hld,e2,i1,r1,r1',i2,r2,r2',i3,i4,i5,i6,r3,r4,r5,r6,g3,g4,g5,g6]
     obtain ⟨U,hU⟩ : ∃ U,U = K ++ [some (Blk.row [AV.int IntKind.i64 f.1,AV.int IntKind.i64 f.2,AV.int IntKind.i64 d.1,AV.int IntKind.i64 d.2])] := ⟨_,rfl⟩
     have hKU : aF K U := hU ▸ aF.refl.app
     have hUk : U[K.length]? = some (some (Blk.row [AV.int IntKind.i64 f.1,AV.int IntKind.i64 f.2,AV.int IntKind.i64 d.1,AV.int IntKind.i64 d.2])) := by rw [hU,qI (Nat.le_refl _),Nat.sub_self]; rfl
     have hXU := hX2.trans (hk.trans hKU)
     have hUr := hXU.2 _ _ hX1
     have hset := fun x : Option Blk => qF (a := x) (aI hUr)
     rw [← hU]
     refine aK (aBm f d (by unfold Bd at *; omega) hfb (hv.sub (hXs.trans hXU)) hl hn).v ?_
     cases hfl : kI l f d with
     | true =>
      rw [hfl] at hF
      rw [show eJ l f = some d from hF] at hH
      simp only [go_sem,hUk,hUr,hset]
      exact ⟨(hXs.trans hXU).setR (by omega),by rw [hH]; rfl⟩
     | false =>
      rw [hfl] at hF
      simp only [go_sem]
      exact ⟨(by unfold I64; omega),ih2 (j + 1,U) ⟨by simp only; omega,hk.trans hKU,hF⟩ (by simp only; omega)⟩
   · have e2 : ¬ (j : Int) < (cY l).length := by omega
     obtain rfl : j = (cY l).length := by omega
     rw [List.drop_length] at hF
     rw [hF] at hH
     simp only [go_sem,hld,e2]
     exact ⟨(by unfold I64; omega),ih (i + 1,K) ⟨by simp only; omega,hk,hH⟩ (by simp only; omega)⟩
 · have e1 : ¬ (i : Int) < 4 := by omega
   obtain rfl : i = 4 := by omega
   rw [show (cM w).drop 4 = [] from rfl] at hH
   have hHr := hs.2 _ _ (hX2.2 _ _ hX1)
   have hset := fun x : Option Blk => qF (a := x) (aI hHr)
   simp only [go_sem,hlc,e1,hHr,hset]
   exact ⟨(hXs.trans (hX2.trans hs)).setR (by omega),by rw [hH]; rfl⟩
theorem aBr (w : bJ) {v : AV} {l : List aD} (hv : Sl w0 h 3 v (l.map aD.c)) (hl : l.all bC = true) (hn : l.length ≤ 20) (hw : fG w = true) :
 aZ Tryz.prog w0 58 [v,.agg w.c] h (.int .i64 (gT l w)) h := by
 refine cP trivial (bA aU aEl mf58_b mf58_g (qE rfl) fun hb ha => aY ?_)
 have hlen : gJ v = some (.int .i64 l.length) := by have := hv.use.1; rwa [List.length_map] at this
 simp only [go_sem,mf58]
 obtain ⟨X,hX⟩ : ∃ X,X = h ++ [some (Blk.row [AV.int IntKind.i64 w.xl,AV.int IntKind.i64 w.xh,AV.int IntKind.i64 w.yl,AV.int IntKind.i64 w.yh])] := ⟨_,rfl⟩
 have hXs : aF h X := hX ▸ aF.refl.app
 have hXw : X[h.length]? = some (some (.row w.c)) := by rw [hX,qI (Nat.le_refl _),Nat.sub_self]; rfl
 refine cD (S := Nat × aA) (F := fun s => [(0,v),(3,.ptr (.own h.length 0)),(5,.int .i64 s.1)]) (H := fun s => s.2) (meas := fun s => l.length - s.1) (Inv := fun s => s.1 ≤ l.length ∧ aF X s.2 ∧ ∀ i,i < s.1 → bS (l.eraseIdx i) w = none) (0,X) ⟨Nat.zero_le _,aF.refl,fun i hi => by omega⟩ rfl (by rw [hX]) ?_
 rintro ⟨j,H⟩ ⟨hj,hs,hall⟩ ih
 simp only at hj hs hall ih ⊢
 refine aV aU aGd [0,3,5] L58_0.eq_1 ?_
 have hHw := hs.2 _ _ hXw
 have hsh := hXs.trans hs
 by_cases hjl : j < l.length
 · have e1 : (j : Int) < l.length := by omega
   simp only [go_sem,hlen,e1]
   refine oT aU [0,1,3,2,4,5,6,7,8,9,10] [o_ 15 (m_ 0),o_ 16 (m_ 5),o_ 18 (.load (.t 3) (some 4)),.call (some 17) none (f_ 62) [(.t 15),(.t 16)]] [([(2,o_ 18 (.load (.t 3) (some 4)))],[.call (some 19) none (f_ 57) [(.t 17),(.t 18)],o_ 14 (m_ 19),o_ 20 (.ext (.t 14) 0),o_ 21 (.ext (.t 14) 1),o_ 7 (.alloc [(.int .i64 0),(.int .i64 0),(.int .i64 0),(.int .i64 0)]),o_ 6 (m_ 20),.op none none (.store (.t 7) (.t 21) 4)])] rfl rfl (by kernel_rfl) ?_
   simp only [go_sem,hHw]
   refine aW (ACall.vc (first := []) (args := [v,.int .i64 j]) (uQ (i := j) (hv.sub hsh) hjl (by omega))) ?_
   rintro y K ⟨s2,hy⟩
   have hKw := s2.2 _ _ hHw
   simp only [go_sem,hKw]
   have hel : (l.eraseIdx j).length = l.length - 1 := by rw [List.length_eraseIdx,if_pos hjl]
   refine aK (pW w hy (oR hl j) (by omega) hw).v ?_
   cases hh : bS (l.eraseIdx j) w with
   | some fd =>
    simp only [go_sem,cX]
    exact ⟨(hsh.trans s2).app,by rw [rP hjl hall (by rw [hh]; rfl)]⟩
   | none =>
    simp only [go_sem,cX]
    refine ⟨(by unfold I64; omega),ih (j + 1,K ++ [some (Blk.row [AV.int IntKind.i64 0,AV.int IntKind.i64 0,AV.int IntKind.i64 0,AV.int IntKind.i64 0])]) ⟨by simp only; omega,(hs.trans s2).app,fun i hi => ?_⟩ (by simp only; omega)⟩
    by_cases q : i = j
    · subst q; exact hh
    · exact hall i (by simp only at hi; omega)
 · have e1 : ¬ (j : Int) < l.length := by omega
   obtain rfl : j = l.length := by omega
   simp only [go_sem,hlen,e1]
   exact ⟨hsh,by rw [mJ hall]⟩
theorem aAL {w0 : World} {H : aA} {es b : Nat} : bT w0 H es b .nilS .nilS = some (.nilS,H) := by simp [bT,dF]
theorem vP {H : aA} {sv : AV} {sch : List Int} (a : LJ w0 H sv sch) (j : Int) (hn : sch.length ≤ 1000) : ∃ y1 H3 K m,bT w0 H 1 8 .nilS sv = some (y1,H3) ∧ bT w0 (H3 ++ [some (.row [.int .i64 j])]) 1 8 y1 (.sl (.own H3.length 0) 1 1 true) = some (.sl (.own m 0) (sch.length + 1) 1 false,K) ∧ (∃ L,K = H ++ L) ∧ K[m]? = some (some (.row (dG (sch ++ [j])))) ∧ H.length ≤ m := by
 by_cases h0 : sch = []
 · subst h0
   obtain rfl := a.2 rfl
   have hap := aF7 (w0 := w0) (h := H) (es := 1) (b := 8) (x := [.int .i64 j]) (L := [some (.row [.int .i64 j])]) 0 true rfl rfl rfl (by omega)
   exact ⟨.nilS,H,_,_,aAL,hap,⟨_,rfl⟩,by rw [qI (by omega)]; simp [dG],by omega⟩
 · have h1 := aCY (w0 := w0) (b := 8) a.1 (by simpa using h0) (fun c hc => by obtain ⟨z,_,rfl⟩ := List.mem_map.1 hc; rfl) (by omega) (by rw [List.length_map]; omega)
   rw [← oJ,List.length_map] at h1
   have hap := aF6 (w0 := w0) (h := H) (es := 1) (b := 8) (n := sch.length) (x := [.int .i64 j]) (old := dG sch) (L := [some (.row (dG sch)),some (.row [.int .i64 j])]) 0 1 true rfl (by simp) rfl rfl rfl (by omega) (by omega)
   refine ⟨_,_,_,_,h1,by simpa using hap,⟨_,rfl⟩,?_,by omega⟩
   rw [qI (by omega)]
   simp [dG]
theorem kS {n : Nat} : ∀ {k : Nat},(bI n k).length ≤ n ^ k
 | 0 => by simp [bI]
 | k + 1 => by
  rw [pK,List.length_flatMap,Nat.pow_succ]
  have h1 := kS (n := n) (k := k)
  have h2 : ∀ (l : List (List Nat)),(l.map fun s => ((List.range' (eF s) (n - eF s)).map fun x => s ++ [x]).length).sum ≤ l.length * n := fun l => by
   induction l with
   | nil => simp
   | cons a l ih =>
    rw [List.map_cons,List.sum_cons,List.length_cons,Nat.succ_mul]
    have : ((List.range' (eF a) (n - eF a)).map fun x => a ++ [x]).length ≤ n := by rw [List.length_map,List.length_range']; omega
    omega
  exact Nat.le_trans (h2 _) (Nat.mul_le_mul_right _ h1)
def nV (n : Nat) (s : List Nat) : List (List Nat) := (List.range' (eF s) (n - eF s)).map fun x => s ++ [x]
theorem aCE {s : List Nat} {k : Nat} (h : s.length = k + 1) : ∃ x : Nat,(cst s).getD k 0 = x ∧ eF s = x + 1 := by
 have hne : s ≠ [] := fun e => by rw [e] at h; cases h
 obtain ⟨t,x,rfl⟩ : ∃ t x,s = t ++ [x] := ⟨s.dropLast,s.getLast hne,(List.dropLast_concat_getLast hne).symm⟩
 have ht : t.length = k := by simpa using h
 refine ⟨x,?_,nB⟩
 rw [fK,← ht,← bE (l := t)]
 simp
theorem aCD {n : Nat} {s : List Nat} (h : Inc n s) : eF s ≤ n := by
 by_cases hne : s = []
 · subst hne; simp [eF]
 · obtain ⟨t,x,rfl⟩ : ∃ t x,s = t ++ [x] := ⟨s.dropLast,s.getLast hne,(List.dropLast_concat_getLast hne).symm⟩
   rw [nB]
   exact h.lt x (by simp)
set_option maxRecDepth 20000 in
theorem aDO {n k : Nat} (hn : n ≤ 8) (hk : k ≤ n) : ACall Tryz.prog w0 109 [.int .i64 n,.int .i64 k] h fun y H => aF h H ∧ SLL w0 H y ((bI n k).map cst) := by
 refine bA aU aCh aFD aFC (qE rfl) fun hb ha => aY ?_
 have hlen : ∀ j,j ≤ k → (bI n j).length ≤ 16777216 := fun j hj => Nat.le_trans kS (Nat.le_trans (Nat.pow_le_pow_left hn j) (Nat.le_trans (Nat.pow_le_pow_right (by omega) (show j ≤ 8 by omega)) (by decide)))
 simp only [go_sem,mf109]
 refine cD (S := Nat × aA × AV) (F := fun t => [(0,.int .i64 n),(1,.int .i64 k),(5,t.2.2),(6,.int .i64 t.1)]) (H := fun t => t.2.1) (meas := fun t => k - t.1) (Inv := fun t => t.1 ≤ k ∧ aF h t.2.1 ∧ SLL w0 t.2.1 t.2.2 ((bI n t.1).map cst))
  (0,h ++ [some (.row [.nilS])],.sl (.own h.length 0) 1 1 true) ⟨Nat.zero_le _,aF.refl.app,aBc (c := [.nilS]) (by rw [qI (Nat.le_refl _),Nat.sub_self]; rfl) rfl rfl fun j x hx => by
   match j,hx with
   | 0,hx => cases hx; exact ⟨.nilS,rfl,.inl ⟨rfl,rfl⟩,fun _ => rfl⟩
   | j + 1,hx => cases hx⟩ rfl (by simp) ?_
 rintro ⟨m,H,tv⟩ ⟨hm,hs,hT⟩ ih
 simp only at hm hs hT ih ⊢
 refine aV aU aDb [0,1,5,6] L109_2.eq_1 ?_
 by_cases hmk : m < k
 · have e1 : (m : Int) < k := by omega
   simp only [go_sem,e1]
   have hlT := hT.len
   rw [List.length_map] at hlT
   have hL1 := hlen m (by omega)
   have hL2 := hlen (m + 1) (by omega)
   refine cD (S := Nat × aA × AV) (F := fun t => [(0,.int .i64 n),(1,.int .i64 k),(5,tv),(6,.int .i64 m),(7,t.2.2),(8,.int .i64 t.1)]) (H := fun t => t.2.1) (meas := fun t => (bI n m).length - t.1) (Inv := fun t => t.1 ≤ (bI n m).length ∧ LL w0 H t.2.1 t.2.2 ((((bI n m).take t.1).flatMap (nV n)).map cst)) (0,H,.nilS) ⟨Nat.zero_le _,.inl ⟨rfl,by simp,aF.refl⟩⟩ rfl (by simp) ?_
   rintro ⟨i,G,nv⟩ ⟨hi,hN⟩ ih2
   simp only at hi hN ih2 ⊢
   refine aV aU aDc [0,1,5,6,7,8] L109_1.eq_1 ?_
   have hHG := hN.hsub
   by_cases hil : i < (bI n m).length
   · have e2 : (i : Int) < (bI n m).length := by omega
     obtain ⟨s,hse⟩ : ∃ s,s = (bI n m)[i] := ⟨_,rfl⟩
     have hsm : s ∈ bI n m := hse ▸ qG hil
     obtain ⟨hinc,hsl⟩ := cR.1 hsm
     have hfl := aCD hinc
     have hpre : (((bI n m).take i).flatMap (nV n)).length + (nV n s).length ≤ (bI n (m + 1)).length := by
      have : (bI n (m + 1)) = (((bI n m).take i).flatMap (nV n)) ++ (nV n s ++ ((bI n m).drop (i + 1)).flatMap (nV n)) := by
       rw [hse,← List.flatMap_cons,← List.drop_eq_getElem_cons hil,← List.flatMap_append,List.take_append_drop]; rfl
      rw [this,List.length_append,List.length_append]; omega
     have hel : (nV n s).length = n - eF s := by rw [nV,List.length_map,List.length_range']
     obtain ⟨p,sv,i1,r1,r1',hsv⟩ := (hT.sub hHG).at_ (j := i) (by rw [List.length_map]; exact hil)
     rw [List.getElem_map,← hse] at hsv
     obtain ⟨x0,hx0⟩ : ∃ x0,x0 = eF s := ⟨_,rfl⟩
     rw [← hx0] at hfl hel
     have hm01 : m = 0 ∨ ∃ m',m = m' + 1 := by
      cases m with
      | zero => exact .inl rfl
      | succ m' => exact .inr ⟨m',rfl⟩
     rcases hm01 with hm0 | ⟨m',hm0⟩
     case' inl =>
      have hs0 : s = [] := List.eq_nil_of_length_eq_zero (hsl.trans hm0)
      have hf0 : x0 = 0 := by rw [hx0,hs0]; rfl
      have e3 : ¬ (m : Int) > 0 := by omega
      simp only [go_sem,hlT,e2,e3]
     case' inr =>
      have hf0 : True := trivial
      have e3 : (m : Int) > 0 := by omega
      have e4 : (m : Int) - 1 = m' := by omega
      have e6 : wi (m' : Int) = m' := wH (by unfold I64; omega)
      obtain ⟨x,x1,x2⟩ := aCE (hsl.trans hm0)
      obtain ⟨p2,i2,r2,r2'⟩ := hsv.1.getD_at2 (j := m') (by rw [bE]; omega)
      rw [x1] at r2 r2'
      have e5 : (x : Int) + 1 = x0 := by omega
      simp only [go_sem,hlT,e2,e3,i1,r1,r1',vD,i2,r2,r2',e4,e6,e5]
     case' inr => refine ⟨(by unfold I64; omega),?_⟩
     all_goals
      obtain ⟨pre,hpr⟩ : ∃ pre,pre = ((bI n m).take i).flatMap (nV n) := ⟨_,rfl⟩
      rw [← hpr] at hN hpre
      refine cD (S := Nat × aA × AV) (F := fun t => [(0,.int .i64 n),(1,.int .i64 k),(5,tv),(6,.int .i64 m),(7,t.2.2),(8,.int .i64 i),(10,.int .i64 t.1)]) (H := fun t => t.2.1) (meas := fun t => n - t.1) (Inv := fun t => x0 ≤ t.1 ∧ t.1 ≤ n ∧ LL w0 H t.2.1 t.2.2 ((pre ++ (List.range' x0 (t.1 - x0)).map fun y => s ++ [y]).map cst)) (x0,G,nv) ⟨Nat.le_refl _,hfl,by simpa using hN⟩ (by first | rfl | simp [hf0]) rfl ?_
      rintro ⟨x,K,nw⟩ ⟨hx1,hx2,hM⟩ ih3
      simp only at hx1 hx2 hM ih3 ⊢
      refine aV aU aDd [0,1,5,6,7,8,10] L109_0.eq_1 ?_
      have hHK := hM.hsub
      by_cases hxn : x < n
      · have e7 : (x : Int) < n := by omega
        obtain ⟨pk,svk,k1,k2,k2',hsk⟩ := (hT.sub hHK).at_ (j := i) (by rw [List.length_map]; exact hil)
        rw [List.getElem_map,← hse] at hsk
        obtain ⟨y1,H3,K3,m3,c1,c2,⟨L,c3⟩,c4,c5⟩ := vP hsk x (by rw [bE]; omega)
        rw [← fK] at c4
        simp only [go_sem,e7,k1,k2,k2']
        rw [c1]
        simp only [go_sem]
        rw [c2]
        simp only [go_sem]
        have hKK : aF K K3 := c3 ▸ aF.refl.app
        have hlm : ((pre ++ (List.range' x0 (x - x0)).map fun y => s ++ [y]).map cst).length ≤ 16777216 := by
         rw [List.length_map,List.length_append,List.length_map,List.length_range']; omega
        obtain ⟨G4,g1,g2⟩ := LL.more (f := true) (ms := [cst (s ++ [x])]) (k := K3.length) (c2 := [.sl (.own m3 0) ((cst s).length + 1) 1 false]) (H1 := K3 ++ [some (.row [.sl (.own m3 0) ((cst s).length + 1) 1 false])]) hM hKK.app (by rw [qI (Nat.le_refl _),Nat.sub_self]; rfl) rfl (by simp) (by simp only [List.length_singleton]; omega) rfl fun j z hz => by
         match j,hz with
         | 0,hz =>
          cases hz
          refine ⟨_,rfl,fun G kk => ⟨eO (kk m3 _ c5 (aC c4)) (by rw [bE,bE]; simp),fun e => absurd (congrArg List.length e) (by rw [bE]; simp)⟩⟩
         | j + 1,hz => cases hz
        simp only [List.length_singleton] at g1 g2
        rw [g1]
        simp only [go_sem]
        refine ⟨(by unfold I64; omega),ih3 (x + 1,G4,_) ⟨by simp only; omega,by simp only; omega,?_⟩ (by simp only; omega)⟩
        simp only
        have e8 : ((pre ++ (List.range' x0 (x - x0)).map fun y => s ++ [y]).map cst) ++ [cst (s ++ [x])] = ((pre ++ (List.range' x0 (x + 1 - x0)).map fun y => s ++ [y]).map cst) := by
         rw [show x + 1 - x0 = (x - x0) + 1 by omega,List.range'_concat,Nat.one_mul,show x0 + (x - x0) = x by omega]; simp
        rw [← e8]
        rw [List.length_append] at g2
        exact g2
      · have e7 : ¬ (x : Int) < n := by omega
        obtain rfl : x = n := by omega
        simp only [go_sem,e7]
        refine ⟨(by unfold I64; omega),ih2 (i + 1,K,nw) ⟨by simp only; omega,?_⟩ (by simp only; omega)⟩
        simp only
        rw [List.take_succ_eq_append_getElem hil,List.flatMap_append,← hpr,← hse,List.flatMap_singleton,nV,← hx0]
        exact hM
   · have e2 : ¬ (i : Int) < (bI n m).length := by omega
     obtain rfl : i = (bI n m).length := by omega
     rw [List.take_length] at hN
     simp only [go_sem,hlT,e2]
     have := hN.sll
     exact ⟨(by unfold I64; omega),ih (m + 1,G,nv) ⟨by simp only; omega,hs.trans hHG,this⟩ (by simp only; omega)⟩
 · have e1 : ¬ (m : Int) < k := by omega
   obtain rfl : m = k := by omega
   simp only [go_sem,e1]
   exact ⟨hs,hT⟩
theorem aDH {l : List aD} {w : bJ} {k : Nat} {s : List Nat} (hk : k ≤ l.length) (h1 : ∀ j,j < k → (bI l.length j).find? (dC l w) = none) (h2 : (bI l.length k).find? (dC l w) = some s) : oC l w = some s := by
 rw [oC,show l.length + 1 = k + ((l.length - k) + 1) by omega,List.range_add,List.findSome?_append,List.findSome?_eq_none_iff.2 (fun j hj => h1 j (List.mem_range.1 hj)),List.range_succ_eq_map]
 simp [h2]
def RFK (w0 : World) (H : aA) (y : AV) : Option (List Nat) → Prop
 | none => y = .tup [.nilS,.bool false]
 | some s => ∃ sv,y = .tup [sv,.bool true] ∧ SlI w0 H sv (cst s)
set_option maxRecDepth 20000 in
theorem zY (w : bJ) {v : AV} {l : List aD} (hv : Sl w0 h 3 v (l.map aD.c)) (e : cB l w = 0) : ACall Tryz.prog w0 59 [v,.agg w.c] h fun y H => aF h H ∧ RFK w0 H y (tO l w) := by
 refine bA aU aEk mf59_b mf59_g (qE rfl) fun hb ha => aY ?_
 obtain ⟨hl8,hl,hw⟩ := jU e
 have hlen : gJ v = some (.int .i64 l.length) := by have := hv.use.1; rwa [List.length_map] at this
 simp only [go_sem,mf59]
 obtain ⟨X,hX⟩ : ∃ X,X = h ++ [some (Blk.row [AV.int IntKind.i64 w.xl,AV.int IntKind.i64 w.xh,AV.int IntKind.i64 w.yl,AV.int IntKind.i64 w.yh])] := ⟨_,rfl⟩
 have hXs : aF h X := hX ▸ aF.refl.app
 have hXw : X[h.length]? = some (some (.row w.c)) := by rw [hX,qI (Nat.le_refl _),Nat.sub_self]; rfl
 refine cD (S := Nat × aA) (F := fun s => [(0,v),(3,.ptr (.own h.length 0)),(6,.int .i64 s.1)]) (H := fun s => s.2) (meas := fun s => l.length + 1 - s.1) (Inv := fun s => s.1 ≤ l.length + 1 ∧ aF X s.2 ∧ ∀ j,j < s.1 → (bI l.length j).find? (dC l w) = none) (0,X) ⟨Nat.zero_le _,aF.refl,fun i hi => by omega⟩ rfl (by rw [hX]) ?_
 rintro ⟨k,H⟩ ⟨hk,hs,hall⟩ ih
 simp only at hk hs hall ih ⊢
 refine aV aU aGb [0,3,6] L59_1.eq_1 ?_
 by_cases hkl : k ≤ l.length
 · have e1 : (k : Int) ≤ l.length := by omega
   simp only [go_sem,hlen,e1]
   refine aW (ACall.vc (first := []) (args := [.int .i64 l.length,.int .i64 k]) (aDO hl8 hkl)) ?_
   rintro tv H2 ⟨s2,hT⟩
   have hlT := hT.len
   rw [List.length_map] at hlT
   have hL : (bI l.length k).length ≤ 16777216 := Nat.le_trans kS (Nat.le_trans (Nat.pow_le_pow_left hl8 k) (Nat.le_trans (Nat.pow_le_pow_right (by omega) (show k ≤ 8 by omega)) (by decide)))
   simp only [go_sem]
   refine cD (S := Nat × aA) (F := fun s => [(0,v),(3,.ptr (.own h.length 0)),(6,.int .i64 k),(7,tv),(8,.int .i64 s.1)]) (H := fun s => s.2) (meas := fun s => (bI l.length k).length - s.1) (Inv := fun s => s.1 ≤ (bI l.length k).length ∧ aF H2 s.2 ∧ (bI l.length k).find? (dC l w) = ((bI l.length k).drop s.1).find? (dC l w)) (0,H2) ⟨Nat.zero_le _,aF.refl,rfl⟩ rfl rfl ?_
   rintro ⟨i,G⟩ ⟨hi,hg,hf⟩ ih2
   simp only at hi hg hf ih2 ⊢
   refine aV aU aGc [0,3,6,7,8] L59_0.eq_1 ?_
   have hXG := hs.trans (s2.trans hg)
   have hhG := hXs.trans hXG
   have hGw := hXG.2 _ _ hXw
   by_cases hil : i < (bI l.length k).length
   · have e2 : (i : Int) < (bI l.length k).length := by omega
     obtain ⟨t,hte⟩ : ∃ t,t = (bI l.length k)[i] := ⟨_,rfl⟩
     have htm : t ∈ bI l.length k := hte ▸ qG hil
     obtain ⟨hinc,htl⟩ := cR.1 htm
     rw [List.drop_eq_getElem_cons hil,List.find?_cons,← hte] at hf
     obtain ⟨p,sv,i1,r1,r1',hsv⟩ := (hT.sub hg).at_ (j := i) (by rw [List.length_map]; exact hil)
     rw [List.getElem_map,← hte] at hsv
     simp only [go_sem,hlT,e2]
     refine oT aU [0,1,2,3,4,6,5,7,8,9,10,11,12,13] [o_ 28 (m_ 0),o_ 29 (m_ 7),o_ 30 (m_ 8),o_ 31 (.idxs 1 (.t 29) (.t 30)),o_ 32 (l_ 31),o_ 34 (.load (.t 3) (some 4)),.call (some 33) none (f_ 61) [(.t 28),(.t 32)]] [([(5,o_ 34 (.load (.t 3) (some 4)))],[.call (some 35) none (f_ 57) [(.t 33),(.t 34)],o_ 27 (m_ 35),o_ 36 (.ext (.t 27) 0),o_ 37 (.ext (.t 27) 1),o_ 10 (.alloc [(.int .i64 0),(.int .i64 0),(.int .i64 0),(.int .i64 0)]),o_ 9 (m_ 36),.op none none (.store (.t 10) (.t 37) 4)])] rfl rfl (by kernel_rfl) ?_
     simp only [go_sem,hGw,i1,r1,r1']
     refine aW (ACall.vc (first := []) (args := [v,sv]) (rof_c (hv.sub hhG) hsv.1 hinc.lt (by omega))) ?_
     rintro y K ⟨s3,hy⟩
     have hKw := s3.2 _ _ hGw
     obtain ⟨p',sv',i1',q1,q1',hsv'⟩ := (hT.sub (hg.trans s3)).at_ (j := i) (by rw [List.length_map]; exact hil)
     have hpp : p' = p := by rw [i1] at i1'; cases i1'; rfl
     subst hpp
     simp only [go_sem,hKw,i1,q1,q1']
     rw [List.getElem_map,← hte] at hsv'
     obtain ⟨f1,f2,f3,f4,h1⟩ := oK (bS (ofR l t) w)
     have hh := pW w hy (wT (n := l.length) hl hinc.lt) (by rw [jX]; omega) hw
     rw [h1] at hh
     refine aK hh.v ?_
     cases hb : dC l w t with
     | true =>
      rw [hb] at hf
      rw [show (bS (ofR l t) w).isNone = true from hb]
      simp only [go_sem,i1,q1,q1']
      refine ⟨(hhG.trans s3).app,?_⟩
      rw [← wO,aDH hkl hall hf]
      exact ⟨sv',rfl,Sl.app hsv'.1⟩
     | false =>
      rw [hb] at hf
      rw [show (bS (ofR l t) w).isNone = false from hb]
      simp only [go_sem]
      exact ⟨(by unfold I64; omega),ih2 (i + 1,_) ⟨by simp only; omega,(hg.trans s3).app,hf⟩ (by simp only; omega)⟩
   · have e2 : ¬ (i : Int) < (bI l.length k).length := by omega
     obtain rfl : i = (bI l.length k).length := by omega
     rw [List.drop_length] at hf
     simp only [go_sem,hlT,e2]
     refine ⟨(by unfold I64; omega),ih (k + 1,G) ⟨by simp only; omega,hXG,fun j hj => ?_⟩ (by simp only; omega)⟩
     by_cases q : j = k
     · subst q; exact hf
     · exact hall j (by simp only at hj; omega)
 · have e1 : ¬ (k : Int) ≤ l.length := by omega
   simp only [go_sem,hlen,e1]
   refine ⟨hXs.trans hs,?_⟩
   rw [← wO,show oC l w = none from List.findSome?_eq_none_iff.2 fun j hj => hall j (by have := List.mem_range.1 hj; omega)]
   rfl
theorem eqa4n (a b c d : Int) : aAv [true,true,true,true] true (.agg [.int .i64 a,.int .i64 b,.int .i64 c,.int .i64 d]) (.agg [.int .i64 a,.int .i64 b,.int .i64 c,.int .i64 d]) = some (.bool false) := by
 have hc : ∀ x : Int,ceq true (.int .i64 x) (.int .i64 x) = some true := fun x => by simp [ceq]
 simp [aAv,cG,hc]
set_option maxRecDepth 20000 in
set_option maxHeartbeats 4000000 in
theorem uF {v : AV} {l : List aD} (w : bJ) (hv : Sl w0 h 3 v (l.map aD.c)) : aZ Tryz.prog w0 14 [v,.agg w.c] h (.bool true) h := by
 refine cP trivial (bA aU aED mf14_b mf14_g (qE rfl) fun hb ha => aY ?_)
 have hlen : gJ v = some (.int .i64 l.length) := by have := hv.use.1; rwa [List.length_map] at this
 by_cases c1 : (l.length : Int) > 20
 · simp only [go_sem,mf14,hlen,c1]
   refine aK mB.v ?_
   simp only [go_sem]
   exact aF.refl.app
 simp only [go_sem,mf14,hlen,c1]
 refine aK (Hold_c w hv.app).v ?_
 by_cases e : cB l w = 0
 rotate_left
 · rw [nP,if_neg e]
   have hSp := fun (G : aA) (hG : aF h G) => yY w (hv.sub hG)
   rw [show fX l w = [.int .i64 0,.int .i64 (cB l w)] from if_pos e] at hSp
   simp only [go_sem,List.cons_append,List.nil_append]
   obtain ⟨X,hX⟩ : ∃ X,X = h ++ [some (Blk.row [AV.int IntKind.i64 w.xl,AV.int IntKind.i64 w.xh,AV.int IntKind.i64 w.yl,AV.int IntKind.i64 w.yh]),some (Blk.row [AV.int IntKind.i64 0,AV.int IntKind.i64 0,AV.int IntKind.i64 0,AV.int IntKind.i64 0])] := ⟨_,rfl⟩
   have hXs : aF h X := hX ▸ aF.refl.app
   have hXw : X[h.length]? = some (some (.row w.c)) := by rw [hX,qI (Nat.le_refl _),Nat.sub_self]; rfl
   have hX0 : X[h.length + 1]? = some (some (.row [AV.int IntKind.i64 0,AV.int IntKind.i64 0,AV.int IntKind.i64 0,AV.int IntKind.i64 0])) := by rw [hX,qI (by omega),show h.length + 1 - h.length = 1 by omega]; rfl
   rw [← hX]
   refine aK (hSp X hXs).v ?_
   simp only [go_sem,hXw]
   refine aW (ACall.vc (first := []) (uD w (hv.sub hXs))) ?_
   rintro y H ⟨hs1,hK⟩
   rw [aAQ,if_pos (by simpa using e)] at hK
   subst hK
   have hHw := hs1.2 _ _ hXw
   have hH0 := hs1.2 _ _ hX0
   simp only [go_sem,hHw]
   refine aK (tD w (hv.sub (hXs.trans hs1))).v ?_
   simp only [go_sem,e,hH0,eqa4,decide_true,Bool.and_self]
   refine aK mB.v ?_
   simp only [go_sem]
   exact hXs.trans hs1
 · obtain ⟨hl8,hl,hw⟩ := jU e
   rw [nP,if_pos e]
   obtain ⟨f1,f2,f3,f4,h1⟩ := oK (bS l w)
   have hrH := fun (G : aA) (hG : aF h G) => pW w (hv.sub hG) hl (by omega) hw
   rw [h1] at hrH
   rw [h1]
   simp only [go_sem,List.cons_append,List.nil_append]
   obtain ⟨X,hX⟩ : ∃ X,X = h ++ [some (Blk.row [AV.int IntKind.i64 w.xl,AV.int IntKind.i64 w.xh,AV.int IntKind.i64 w.yl,AV.int IntKind.i64 w.yh]),some (Blk.row [AV.int IntKind.i64 f1,AV.int IntKind.i64 f2,AV.int IntKind.i64 f3,AV.int IntKind.i64 f4])] := ⟨_,rfl⟩
   have hXs : aF h X := hX ▸ aF.refl.app
   have hXw : X[h.length]? = some (some (.row w.c)) := by rw [hX,qI (Nat.le_refl _),Nat.sub_self]; rfl
   have hX0 : X[h.length + 1]? = some (some (.row [AV.int IntKind.i64 f1,AV.int IntKind.i64 f2,AV.int IntKind.i64 f3,AV.int IntKind.i64 f4])) := by rw [hX,qI (by omega),show h.length + 1 - h.length = 1 by omega]; rfl
   rw [← hX]
   refine aK (yY w (hv.sub hXs)).v ?_
   have hV : fX l w = [.int .i64 (if (bS l w).isSome then 0 else gT l w),.int .i64 (if (bS l w).isSome then 7 else 0)] := by
    rw [fX,if_neg (by simpa using e)]; split <;> rfl
   rw [hV]
   simp only [go_sem,hXw]
   refine aW (ACall.vc (first := []) (uD w (hv.sub hXs))) ?_
   rintro y H ⟨hs1,hK⟩
   rw [aAQ,if_neg (by simpa using e)] at hK
   have hHw := hs1.2 _ _ hXw
   have hH0 := hs1.2 _ _ hX0
   have hhH := hXs.trans hs1
   obtain ⟨sv,er,rfl,hK2⟩ : ∃ sv er,y = .tup [sv,.int .i64 er] ∧ match tO l w with
    | none => sv = .nilS ∧ er = 5
    | some s => er = 0 ∧ SlI w0 H sv (cst s) := by
    cases hf : tO l w with
    | none => rw [hf] at hK; exact ⟨_,_,hK,rfl,rfl⟩
    | some s => rw [hf] at hK; obtain ⟨sv,h1,h2⟩ := hK; exact ⟨_,_,h1,rfl,h2⟩
   simp only [go_sem,hHw]
   refine aK (tD w (hv.sub hhH)).v ?_
   simp only [go_sem,e,hHw]
   refine aK (hrH H hhH).v ?_
   obtain ⟨U,hU⟩ : ∃ U,U = H ++ [some (Blk.row [AV.int IntKind.i64 f1,AV.int IntKind.i64 f2,AV.int IntKind.i64 f3,AV.int IntKind.i64 f4])] := ⟨_,rfl⟩
   have hHU : aF H U := hU ▸ aF.refl.app
   have hhU := hhH.trans hHU
   have hUw := hHU.2 _ _ hHw
   have hU0 := hHU.2 _ _ hH0
   have hU1 : U[H.length]? = some (some (.row [AV.int IntKind.i64 f1,AV.int IntKind.i64 f2,AV.int IntKind.i64 f3,AV.int IntKind.i64 f4])) := by rw [hU,qI (Nat.le_refl _),Nat.sub_self]; rfl
   have hcs : (∃ fd,bS l w = some fd) ∨ bS l w = none := by
    cases bS l w with
    | none => exact .inr rfl
    | some fd => exact .inl ⟨fd,rfl⟩
   rcases hcs with ⟨fd,hh⟩ | hh
   case' inl =>
    rw [hh]
    simp only [go_sem,Option.isNone,Option.isSome]
    rw [← hU]
    simp only [go_sem,hU0,hU1,hUw,eqa4n]
   case' inr =>
    rw [hh]
    simp only [go_sem,Option.isNone,Option.isSome]
    rw [← hU]
    simp only [go_sem,hU0,hU1,hUw,eqa4n]
    refine aK (aBr w (hv.sub hhU) hl (by omega) hw).v ?_
    simp only [go_sem,hUw]
   all_goals
    refine aW (ACall.vc (first := []) (zY w (hv.sub hhU) e)) ?_
    rintro y2 K ⟨s2,hR⟩
    have hhK := hhU.trans s2
    cases hf : tO l w with
    | none =>
     rw [hf] at hR hK2
     obtain ⟨rfl,rfl⟩ := hK2
     rw [RFK] at hR
     subst hR
     simp only [go_sem]
     refine aK mB.v ?_
     simp only [go_sem]
     exact hhK
    | some s =>
     rw [hf] at hR hK2
     obtain ⟨rfl,hK3⟩ := hK2
     rw [RFK] at hR
     obtain ⟨sv2,rfl,hR2⟩ := hR
     have hb := oM (l := l) (w := w)
     rw [hf] at hb
     have hsl := qN hb.1
     simp only [go_sem]
     refine aK (aDD (Sl.sub hK3 (hHU.trans s2)) hR2 (by rw [bE]; omega)).v ?_
     rw [decide_eq_true rfl]
     simp only [go_sem]
     refine aK mB.v ?_
     simp only [go_sem]
     exact hhK
end Go.Proofs.Ab

/- The own layer under the proofs of this seat, part Q: what calls of the program come to on an abstract heap. No condition. -/
import Derived.Test.YtiaaonmbgkealaaP
set_option linter.unusedSimpArgs false
set_option linter.unusedVariables false
namespace Go.Proofs.Ab
open Go Go.Proofs
section
variable {d : aQ}
theorem tN {next : aC → Int} : ∀ (l : List (List aH × aC)) (b : Int),(∀ x ∈ l,0 ≤ next x.2) → (0 ≤ b → l.foldl (kS next) b ≤ b) ∧ ∀ x ∈ l,l.foldl (kS next) b ≤ next x.2
 | [],b,_ => ⟨fun _ => Int.le_refl _,fun x hx => by cases hx⟩
 | x :: l,b,h => by
  obtain ⟨h1,h2⟩ := tN l (kS next b x) fun y hy => h y (by simp [hy])
  have hx := h x (by simp)
  have hm : 0 ≤ kS next b x ∧ kS next b x ≤ next x.2 ∧ (0 ≤ b → kS next b x ≤ b) := by
   rw [kS]
   split
   · rename_i e
     simp only [Bool.or_eq_true,decide_eq_true_eq] at e
     exact ⟨hx,Int.le_refl _,fun _ => by omega⟩
   · rename_i e
     simp only [Bool.or_eq_true,decide_eq_true_eq,not_or] at e
     exact ⟨by omega,by omega,fun _ => Int.le_refl _⟩
  have h3 := h1 hm.1
  rw [List.foldl_cons]
  refine ⟨fun hb => by have := hm.2.2 hb; omega,fun y hy => ?_⟩
  rcases List.mem_cons.1 hy with e | e
  · subst e; omega
  · exact h2 y e
theorem xA {f : Nat → Int} : ∀ (l : List Nat) (b : Int),l.foldl (fun m g => max m (f g)) b = b ∨ ∃ g ∈ l,f g = l.foldl (fun m g => max m (f g)) b
 | [],b => .inl rfl
 | x :: l,b => by
  rw [List.foldl_cons]
  rcases xA (f := f) l (max b (f x)) with h | ⟨g,hg,h⟩
  · rcases Int.le_total b (f x) with e | e
    · right; exact ⟨x,by simp,by rw [h]; omega⟩
    · left; rw [h]; omega
  · exact .inr ⟨g,by simp [hg],h⟩
end
end Go.Proofs.Ab
namespace Go.Proofs.Ab
open Go Go.Proofs
section
variable {d : aQ}
def bI (d : aQ) (w : Nat) : aQ := ⟨d.places,d.links,d.planes,d.people,[weaOf d w]⟩
where weaOf (d : aQ) (w : Nat) : List Int := d.weathers.getD w []
theorem aC7 (w : Nat) (s : aC) : oA (bI d w) s = oA d s := rfl
theorem aEx (w : Nat) (s : aC) (op : Int) (u : List aH) : eO (bI d w) s op u = eO d s op u := by
 have hr : ∀ i x g,jJ (bI d w) s op i x g = jJ d s op i x g := fun i x g => rfl
 have hl : ∀ (u : List aH) (i : Nat) (n : aC) (g : List Bool),jY (bI d w) s op u i n g = jY d s op u i n g := by
  intro u
  induction u with
  | nil => intro i n g; rfl
  | cons x u ih =>
   intro i n g
   rw [jY,jY,hr,ih]
   split
   · rfl
   · split
     · rfl
     · rw [ih]
 rw [eO,eO,hl]
 rfl
theorem aA1 (w : Nat) (s : aC) (op : Int) : dG (bI d w) s op = dG d s op := by
 have ht : ∀ (at_ to : Int) (k : Nat) (l : List Int) (seats : Int) (gone : Nat),lA (bI d w) s at_ to k l seats gone = lA d s at_ to k l seats gone := by
  intro at_ to k
  induction k with
  | zero => intro l seats gone; rfl
  | succ k ih =>
   intro l seats gone
   rw [lA,lA]
   simp only [ih]
   rfl
 have hf : ∀ (plane gone k : Nat),eP (bI d w) s op plane gone k = eP d s op plane gone k := by
  intro plane gone k
  induction k with
  | zero => rfl
  | succ k ih =>
   rw [eP,eP,ih]
   simp only [yX,ht]
   rfl
 have hu : ∀ (k gone : Nat) (u : List aH),cY (bI d w) s op k gone u = cY d s op k gone u := by
  intro k
  induction k with
  | zero => intro gone u; rw [cY,cY,aEx]
  | succ k ih =>
   intro gone u
   rw [cY,cY]
   have e : fE (bI d w) s op ((bI d w).planes.length - (k + 1)) gone = fE d s op (d.planes.length - (k + 1)) gone := by
    rw [fE,fE]
    have : (bI d w).places.length = d.places.length := rfl
    rw [this,hf]
    rfl
   rw [e]
   simp only [ih]
 exact hu _ _ _
theorem lO (dg : hZ d) {w : Nat} (hw : w < d.weathers.length) : aN (bI d w) = aN d := by
 have h1 : (mC d w).length = aN d := by rw [aBz hw]; exact (dg.rows _ (List.getElem_mem hw)).1
 exact h1
theorem aEw {w t : Nat} : wAt (bI d w) 0 t = wAt d w t := rfl
theorem yD {s : aC} {op : Int} (hc : NC d s) : ∀ (k gone : Nat) (u : List aH),(∀ x ∈ u,x.to < 0) → ∃ y ∈ cY d s op k gone u,y.2 = s
 | 0,gone,u,hu => by
  have e : eO d s op u = (s,1,-1) := by
   rw [eO,qW u _ _ _ hu]
   simp only
   rw [hc]
   simp
  rw [cY,e,if_pos rfl]
  exact ⟨_,List.mem_singleton.2 rfl,rfl⟩
 | k + 1,gone,u,hu => by
  rw [cY,fE,List.flatMap_cons]
  obtain ⟨y,hy,e⟩ := yD hc k gone (u ++ [⟨-1,[]⟩]) fun x hx => by
   rcases List.mem_append.1 hx with h | h
   · exact hu x h
   · simp only [List.mem_singleton] at h; subst h; decide
  exact ⟨y,List.mem_append.2 (.inl hy),e⟩
theorem vA (dg : hZ d) : ∀ (k ws : Nat) (s : aC),k ≤ aN d → NC d s → bA d k ws s ≤ oA d s
 | 0,_,_,_,_ => Int.le_refl _
 | k + 1,ws,s,hk,hc => by
  rw [bA]
  have key : ∀ g ∈ cW d ws (aN d - (k + 1)),iT d (bA d k) (aN d - (k + 1)) g s ≤ oA d s := fun g hg => by
   have hst : ∃ y ∈ dG d s (wAt d (fF g d.weathers.length) (aN d - (k + 1))),y.2 = s := by
    exact yD hc _ _ _ fun x hx => by cases hx
   obtain ⟨y,hy,ey⟩ := hst
   have h1 := (tN (next := bA d k g) (dG d s (wAt d (fF g d.weathers.length) (aN d - (k + 1)))) (-1) fun y _ => aCd dg k g y.2).2 y hy
   rw [ey] at h1
   have h2 := vA dg k g s (by omega) hc
   rw [iT]; omega
  rcases xA (f := fun g => iT d (bA d k) (aN d - (k + 1)) g s) (cW d ws (aN d - (k + 1))) 0 with h | ⟨g,hg,h⟩
  · rw [h]; exact aFL dg s
  · rw [← h]; exact key g hg
theorem rO (dg : hZ d) {w : Nat} (hw : w < d.weathers.length) : ∀ (k ws t : Nat) (s : aC),t + k = aN d → bM ws w = true → NC d s → StN d t s → bA (bI d w) k 1 s ≤ bA d k ws s
 | 0,ws,t,s,_,_,_,_ => Int.le_refl _
 | k + 1,ws,t,s,hk,hb,hc,hs => by
  obtain ⟨g,x,_,hgb,hx,hle⟩ := aC5 dg hk hw hb hc
  obtain ⟨q1,q2,q3,q4⟩ := qI dg hs x hx
  obtain ⟨f1,f2⟩ := aFB q3
  have ih := rO dg hw k g (t + 1) x.2 (by omega) hgb (by rw [q4]; exact f2) (by rw [q4]; exact aB5 q1 q2 hs)
  have hsl := lO dg hw
  have hlen : (bI d w).weathers.length = 1 := rfl
  have key : ∀ g' ∈ cW (bI d w) 1 (aN (bI d w) - (k + 1)),iT (bI d w) (bA (bI d w) k) (aN (bI d w) - (k + 1)) g' s ≤ bA d k g x.2 := fun g' hg' => by
   obtain ⟨v,hv1,hv2,hv⟩ := lS.1 g' hg'
   have hv0 : v = 0 := by omega
   subst hv0
   have hbits : ∀ i,bM g' i = true ↔ i = 0 := fun i => by
    rw [hv,hlen]
    constructor
    · intro h; omega
    · intro h; subst h; exact ⟨by omega,hv2,rfl⟩
   have hg1 : g' = 1 := by
    refine Nat.eq_of_testBit_eq fun i => ?_
    rw [← eT,Bool.eq_iff_iff,hbits]
    rw [show (1 : Nat) = 2 ^ 0 from rfl,Nat.testBit_two_pow]
    simp [eq_comm]
   subst hg1
   have hop : wAt (bI d w) (fF 1 (bI d w).weathers.length) (aN (bI d w) - (k + 1)) = wAt d w t := by
    have h0 : fF 1 (bI d w).weathers.length = 0 := by rw [hlen]; rfl
    rw [h0,aEw,hsl,show aN d - (k + 1) = t by omega]
   have hnn : ∀ (k : Nat) (s : aC),0 ≤ bA (bI d w) k 1 s := fun k s => by
    cases k with
    | zero => rw [bA,aC7]; exact aFL dg s
    | succ k => rw [bA]; exact (pU (f := fun g => iT (bI d w) (bA (bI d w) k) (aN (bI d w) - (k + 1)) g s) _ 0).1
   have := (tN (next := bA (bI d w) k 1) (dG (bI d w) s (wAt (bI d w) (fF 1 (bI d w).weathers.length) (aN (bI d w) - (k + 1)))) (-1) fun y _ => hnn k y.2).2 x (by rw [aA1,hop]; exact hx)
   rw [iT]
   omega
  rw [bA]
  rcases xA (f := fun g => iT (bI d w) (bA (bI d w) k) (aN (bI d w) - (k + 1)) g s) (cW (bI d w) 1 (aN (bI d w) - (k + 1))) 0 with h | ⟨g',hg',h⟩
  · rw [h]; exact aCd dg (k + 1) ws s
  · rw [← h]
    have := key g' hg'
    omega
theorem aC8 (hB : dN d = true) {w : Nat} (hw : w < d.weathers.length) : (mB (bI d w)).2 ≤ (mB d).2 ∧ (mB d).2 ≤ oA d (bQ d) := by
 have dg := jR hB
 have hc := (qA.1 hB).cr
 refine ⟨?_,vA dg _ _ _ (Nat.le_refl _) hc⟩
 have := rO dg hw (aN d) (2 ^ d.weathers.length - 1) 0 (bQ d) (by omega) (aJf hw) hc (uI dg)
 have e : (mB (bI d w)).2 = bA (bI d w) (aN d) 1 (bQ d) := by
  rw [mB,lO dg hw]; rfl
 rw [e]; exact this
theorem tJ (hB : dN d = true) {w : Nat} (hw : w < d.weathers.length) : dN (bI d w) = true := by
 have sp := qA.1 hB
 have dg := jR hB
 refine qA.2 ⟨sp.n,sp.l,sp.p,sp.q,by simp [bI,inB],by rw [lO dg hw]; exact sp.s,sp.br,sp.lk,sp.pn,sp.pe,fun j hj => ?_,sp.cr⟩
 have : j = 0 := by have : (bI d w).weathers.length = 1 := rfl; omega
 subst this
 rw [lO dg hw]
 exact sp.we w hw
end
end Go.Proofs.Ab
namespace Go.Proofs.Ab
open Go Go.Proofs
variable {w0 : World} {h : Heap}
attribute [local irreducible] ACall aS aW aM aP rvC rdC lp rg dr ex un rv rd'
def slK2 (p : Pl) (len es es' : Nat) (full : Bool) (b : Option (Nat × Nat × Option Nat)) : Option AV := b.map fun b => .sl (p.add (b.1 * es)) (b.2.1 - b.1) es' (dW b.2.2 b.2.1 (full && b.2.1 == len))
@[go_sem] theorem slK2_s {p : Pl} {len es es' l h : Nat} {full : Bool} {m : Option Nat} : slK2 p len es es' full (some (l,h,m)) = some (.sl (p.add (l * es)) (h - l) es' (dW m h (full && h == len))) := (rfl)
@[go_sem] theorem slK2_i {p : Pl} {len es es' : Nat} {full : Bool} {c : Prop} [Decidable c] {x : Nat × Nat × Option Nat} : slK2 p len es es' full (if c then some x else none) = if c then slK2 p len es es' full (some x) else none := by split <;> rfl
theorem aJx (d : aQ) (v : cD) (w : Nat) (hR : jA w0 h d v) (hB : dN d = true) (hw : w < d.weathers.length) : ACall Try.prog w0 34 [.agg (aX v),.int .i64 (w : Int)] h fun y H => aB h H ∧ y = .tup [.int .i64 (mB (bI d w)).2,.int .i64 0] := by
 refine bE aL aHz mf34_b mf34_g (Nat.le_of_ble_eq_true rfl) fun hb ha => aV ?_
 obtain ⟨y1,y2,y3,y4,y5⟩ := hR.ones
 obtain ⟨l1,l2,l3,l4,l5⟩ := hR.lens
 have dg := jR hB
 have w1 := dg.w1
 obtain ⟨rows,r1,r2,r3⟩ := hR.weathers
 rcases r2 with ⟨_,e⟩ | ⟨p,full,⟨es',e1,he⟩,hp,hr⟩
 · subst e; simp at r1; omega
 obtain ⟨K,eK⟩ : ∃ K,K = h ++ [some (Blk.row [v.pl,v.ln,v.pn,v.pe,v.we])] := ⟨_,rfl⟩
 have sK : aB h K := eK ▸ aB.refl.app
 have k0 : K[h.length]? = some (some (.row [v.pl,v.ln,v.pn,v.pe,v.we])) := by rw [eK]; simp
 have k0L : ∀ L,(K ++ L)[h.length]? = some (some (.row [v.pl,v.ln,v.pn,v.pe,v.we])) := fun L => aA k0
 have hin : inB (w : Int) 0 ((d.weathers.length : Int) - 1) = true := by simp [inB]; omega
 simp only [go_sem,mf34,aX,y1,y2,y3,y4,y5]
 rw [← eK]
 refine aF (rD d v (hR.sub sK)).v ?_
 rw [hB]
 simp only [go_sem,k0,k0L,l5]
 refine ⟨(by unfold I64; omega),?_⟩
 refine aF (jX _ _ _).v ?_
 rw [hin]
 have d1 : bT (.int .i64 (w : Int)) = some w := lW
 simp only [go_sem,k0,k0L,e1,d1]
 have hs : ∀ fr lo hi mx,rZ 1 fr (.sl p rows.length es' full) lo hi mx = slK2 p rows.length 1 es' full (cL fr rows.length lo hi mx) := fun fr lo hi mx => by simp only [rZ,he,if_true]; rfl
 have d2 : bT (.int .i64 ((w : Int) + 1)) = some (w + 1) := by rw [show ((w : Int) + 1) = ((w + 1 : Nat) : Int) by omega]; exact lW
 have d3 : (0 : Int) ≤ w := by omega
 have d4 : (0 : Int) ≤ (w : Int) + 1 := by omega
 have d5 : ((w : Int) + 1).toNat = w + 1 := by omega
 have d6 : w ≤ w + 1 := by omega
 have d7 : w + 1 ≤ rows.length := by omega
 have d8 : w + 1 - w = 1 := by omega
 refine ⟨(by unfold I64; omega),?_⟩
 simp only [go_sem,hs,d1,d2,d3,d4,d5,d6,d7,d8]
 obtain ⟨fl,efl⟩ : ∃ fl,fl = (full && w + 1 == rows.length) := ⟨_,rfl⟩
 rw [← efl]
 obtain ⟨wv,ewv⟩ : ∃ wv,wv = AV.sl (p.add (w * 1)) 1 es' fl := ⟨_,rfl⟩
 rw [← ewv]
 have owv : one wv = true := by rw [ewv]; rfl
 obtain ⟨K2,eK2⟩ : ∃ K2,K2 = K.set h.length (some (Blk.row [v.pl,v.ln,v.pn,v.pe,wv])) := ⟨_,rfl⟩
 have sK2 : aB h K2 := by rw [eK2]; exact sK.setR (Nat.le_refl _)
 have j0 : K2[h.length]? = some (some (.row [v.pl,v.ln,v.pn,v.pe,wv])) := by rw [eK2]; exact List.getElem?_set_self (aG k0)
 have j0L : ∀ L,(K2 ++ L)[h.length]? = some (some (.row [v.pl,v.ln,v.pn,v.pe,wv])) := fun L => aA j0
 simp only [go_sem,k0]
 rw [← eK2]
 simp only [go_sem,j0,j0L,y1,y2,y3,y4,owv]
 obtain ⟨v',ev'⟩ : ∃ v' : cD,v' = ⟨v.pl,v.ln,v.pn,v.pe,wv⟩ := ⟨_,rfl⟩
 have hB' := tJ hB hw
 have dg' := jR hB'
 have hwr : w < rows.length := by omega
 have hwe : LI w0 h wv [bI.weaOf d w] := by
  refine ⟨[rows[w]],rfl,.inr ⟨p.add (w * 1),fl,⟨es',by rw [ewv]; rfl,(by cases p with | old a => simp [dM,Pl.add] | own i o => simpa [dM,Pl.add] using he)⟩,(by cases p with | old a => simp [Pl.bdd,Pl.add] | own i o => simpa [Pl.bdd,Pl.add] using hp),fun j c hc => ?_⟩,fun j x c hx hc => ?_⟩
  · have hj := aG hc
    have : j = 0 := by simp at hj; exact hj
    subst this
    rw [Pl.add_add]
    simp only [List.getElem?_cons_zero,Option.some.injEq] at hc
    subst hc
    simpa using hr w _ (List.getElem?_eq_getElem hwr)
  · have hj := aG hc
    have : j = 0 := by simp at hj; exact hj
    subst this
    simp only [List.getElem?_cons_zero,Option.some.injEq] at hc hx
    subst hc hx
    refine r3 w _ _ ?_ (List.getElem?_eq_getElem hwr)
    rw [bI.weaOf,aK hw]; exact List.getElem?_eq_getElem hw
 have hR' : jA w0 h (bI d w) v' := by
  rw [ev']
  refine ⟨⟨hR.places,hR.links,hR.planes,hR.people,hwe⟩,hR.l1,hR.l2,hR.l3,hR.l4,by simp [bI],fun x hx => ?_⟩
  have := (dg'.rows x hx).1
  have := dg'.s1
  omega
 obtain ⟨H1,eH1⟩ : ∃ H1,H1 = K2 ++ [some (Blk.map []),some (Blk.row [v.pl,v.ln,v.pn,v.pe,wv,AV.map K2.length])] := ⟨_,rfl⟩
 have sH1 : aB h H1 := eH1 ▸ sK2.trans aB.refl.app
 have hl1 : H1.length = K2.length + 2 := by rw [eH1]; simp
 have lK2 := sK2.1
 have g1 : H1[K2.length]? = some (some (.map [])) := by rw [eH1]; simp
 have g2 : H1[K2.length + 1]? = some (some (.row (aX v' ++ [.map K2.length]))) := by rw [eH1,ev']; simp [aX]
 rw [← eH1]
 have hsm : aB h (msk [K2.length] H1) := by
  have := (aB.toK (C := []) sH1).mskm (ms := []) (ns := [K2.length]) (by simp) fun c hc => .inr (by simp only [List.mem_singleton] at hc; omega)
  simpa [msk] using this
 have I : iW w0 (bI d w) v' (K2.length + 1) K2.length [K2.length] H1 := by
  refine ⟨aCa hB' ?_ (hR'.sub hsm),by simp,fun c hc => by simp only [List.mem_singleton] at hc; omega,[],g1,fun K c hc => by cases hc⟩
  rw [bF (by simp)]; exact g2
 refine aU (ACall.vc (first := []) (args := [_]) (aCe (bI d w) v' (.map K2.length) (K2.length + 1) (I.hD.sub cJ) dg')) ?_
 rintro y H2 ⟨s1,nv,rfl,hst⟩
 have hst' := hst [K2.length] fun c hc => by simp only [List.mem_singleton] at hc; omega
 have I2 : iW w0 (bI d w) v' (K2.length + 1) K2.length [K2.length] H2 := I.keep (C := []) s1.toK (by simp) (by rw [g1,s1.2 _ _ g1])
 obtain ⟨o1,o2,o3⟩ := (hst'.sub cJ).ones
 have hc := (sZ (bI d w) v' (K2.length + 1) K2.length dg' (aN (bI d w))).1 0 1 (bQ (bI d w)) nv [K2.length] H2 (by omega) (by decide) (uI dg') I2 hst'
 simp only [go_sem,stC,o1,o2,o3]
 refine aU (ACall.vc (first := []) (args := [_,_,_,_]) hc) ?_
 rintro y H3 ⟨e3,k3,_⟩
 subst e3
 simp only [go_sem]
 refine ⟨⟨Nat.le_trans sH1.1 (Nat.le_trans s1.1 k3.le),fun i b e => ?_⟩,rfl⟩
 have hi := aI e
 exact k3.at_ _ _ (by simp; omega) (s1.2 _ _ (sH1.2 _ _ e))
theorem Only_c (d : aQ) (v : cD) (w : Nat) (hR : jA w0 h d v) (hB : dN d = true) (hw : w < d.weathers.length) : ACall Try.prog w0 38 [.agg (aX v),.int .i64 (w : Int)] h fun y H => aB h H ∧ ∃ v',y = .agg (aX v') ∧ jA w0 H (bI d w) v' := by
 refine bE aL aHx mf38_b mf38_g (Nat.le_of_ble_eq_true rfl) fun hb ha => aV ?_
 obtain ⟨y1,y2,y3,y4,y5⟩ := hR.ones
 obtain ⟨p,x,p1,p2,p3⟩ := hR.weathers.at_ hw
 have ox := p3.one.1
 have d1 : bT (.int .i64 (w : Int)) = some w := lW
 obtain ⟨K,eK⟩ : ∃ K,K = h ++ [some (Blk.row [v.pl,v.ln,v.pn,v.pe,v.we]),some (Blk.row [AV.nilS,AV.nilS,AV.nilS,AV.nilS,AV.nilS])] := ⟨_,rfl⟩
 have sK : aB h K := eK ▸ aB.refl.app
 have kl : K.length = h.length + 2 := by rw [eK]; simp
 have k0 : K[h.length]? = some (some (.row [v.pl,v.ln,v.pn,v.pe,v.we])) := by rw [eK]; simp
 have k1 : K[h.length + 1]? = some (some (.row [.nilS,.nilS,.nilS,.nilS,.nilS])) := by rw [eK]; simp
 have k0L : ∀ L,(K ++ L)[h.length]? = some (some (.row [v.pl,v.ln,v.pn,v.pe,v.we])) := fun L => aA k0
 have q2 : ∀ L,rd w0 (K ++ L) p = some x := fun L => by
  have := p2 (K.drop h.length ++ L)
  rw [← List.append_assoc] at this
  have e : h ++ K.drop h.length = K := by rw [eK]; simp
  rwa [e] at this
 have q2' := q2 []
 rw [List.append_nil] at q2'
 simp only [go_sem,mf38,aX,y1,y2,y3,y4,y5]
 rw [← eK]
 simp only [go_sem,k0,k0L,p1,q2,q2',ox,p3.one.2]
 obtain ⟨K2,eK2⟩ : ∃ K2,K2 = K ++ [some (Blk.row [x])] := ⟨_,rfl⟩
 have s2 : aB K K2 := eK2 ▸ aB.refl.app
 have j0 := s2.2 _ _ k0
 have j1 := s2.2 _ _ k1
 have j2 : K2[K.length]? = some (some (.row [x])) := by rw [eK2]; simp
 rw [← eK2]
 obtain ⟨wv,ewv⟩ : ∃ wv,wv = AV.sl (.own K.length 0) 1 1 true := ⟨_,rfl⟩
 rw [← ewv]
 have owv : one wv = true := by rw [ewv]; rfl
 obtain ⟨K3,eK3⟩ : ∃ K3,K3 = K2.set h.length (some (Blk.row [v.pl,v.ln,v.pn,v.pe,wv])) := ⟨_,rfl⟩
 have i0 : K3[h.length]? = some (some (.row [v.pl,v.ln,v.pn,v.pe,wv])) := by rw [eK3]; exact List.getElem?_set_self (aG j0)
 have i1 : K3[h.length + 1]? = some (some (.row [.nilS,.nilS,.nilS,.nilS,.nilS])) := by rw [eK3,List.getElem?_set_ne (by omega)]; exact j1
 have i2 : K3[K.length]? = some (some (.row [x])) := by rw [eK3,List.getElem?_set_ne (by omega)]; exact j2
 rw [← eK3]
 have z1 : (K3.set (h.length + 1) (some (Blk.row [v.pl,v.ln,v.pn,v.pe,wv])))[h.length + 1]? = some (some (Blk.row [v.pl,v.ln,v.pn,v.pe,wv])) := List.getElem?_set_self (aG i1)
 simp only [go_sem,i0,i1,y1,y2,y3,y4,owv,z1]
 obtain ⟨K4,eK4⟩ : ∃ K4,K4 = K3.set (h.length + 1) (some (Blk.row [v.pl,v.ln,v.pn,v.pe,wv])) := ⟨_,rfl⟩
 rw [← eK4]
 have s4 : aB h K4 := by
  rw [eK4,eK3]; exact ((sK.trans s2).setR (Nat.le_refl _)).setR (by omega)
 have i4 : K4[K.length]? = some (some (.row [x])) := by rw [eK4,List.getElem?_set_ne (by omega)]; exact i2
 refine ⟨s4,⟨v.pl,v.ln,v.pn,v.pe,wv⟩,rfl,?_⟩
 have hB' := tJ hB hw
 have dg' := jR hB'
 have hwe : LI w0 K4 wv [bI.weaOf d w] := by
  refine ⟨[[x]],rfl,?_,fun j y c hx hc => ?_⟩
  · rw [ewv]
    exact gZ (rows := [[x]]) (by simpa using i4) (fun c hc => by simp only [List.mem_singleton] at hc; subst hc; rfl)
  · have hj := aG hc
    have : j = 0 := by simp at hj; exact hj
    subst this
    simp only [List.getElem?_cons_zero,Option.some.injEq] at hc hx
    subst hc hx
    refine ⟨x,rfl,?_⟩
    have := Sl.sub p3 s4
    rw [bI.weaOf,aK hw]
    exact this
 refine ⟨⟨hR.places.sub s4,hR.links.sub s4,hR.planes.sub s4,hR.people.sub s4,hwe⟩,hR.l1,hR.l2,hR.l3,hR.l4,by simp [bI],fun x hx => ?_⟩
 have := (dg'.rows x hx).1
 have := dg'.s1
 omega
end Go.Proofs.Ab
namespace Go.Proofs.Ab
open Go Go.Proofs
variable {w0 : World} {h : Heap}
attribute [local irreducible] ACall aS aW aM aP rvC rdC lp rg dr ex un rv rd'
theorem aBs (d : aQ) (v : cD) (w : Int) (hS : DayS w0 h d v) (hW : d.weathers.length ≤ 9223372036854775807) : ACall Try.prog w0 10 [.agg (aX v),.int .i64 w] h fun y H => y = .bool true ∧ aB h H := by
 refine bE aL aII mf10_b mf10_g (Nat.le_of_ble_eq_true rfl) fun hb ha => aV ?_
 obtain ⟨y1,y2,y3,y4,y5⟩ := hS.ones
 obtain ⟨l1,l2,l3,l4,l5⟩ := hS.lens
 obtain ⟨K,eK⟩ : ∃ K,K = h ++ [some (Blk.row [v.pl,v.ln,v.pn,v.pe,v.we])] := ⟨_,rfl⟩
 have sK : aB h K := eK ▸ aB.refl.app
 have k0 : K[h.length]? = some (some (.row [v.pl,v.ln,v.pn,v.pe,v.we])) := by rw [eK]; simp
 have k0L : ∀ L,(K ++ L)[h.length]? = some (some (.row [v.pl,v.ln,v.pn,v.pe,v.we])) := fun L => aA k0
 simp only [go_sem,mf10,aX,y1,y2,y3,y4,y5]
 rw [← eK]
 refine aF (aFh d v (hS.sub sK) hW).v ?_
 cases e1 : iZ d with
 | false =>
  simp only [go_sem]
  refine aF sQ.v ?_
  simp only [go_sem]
  exact sK
 | true =>
 by_cases t1 : w < 0
 · simp only [go_sem,t1]
   refine aF sQ.v ?_
   simp only [go_sem]
   exact sK
 by_cases t2 : (d.weathers.length : Int) ≤ w
 · simp only [go_sem,t1,k0,k0L,l5,t2]
   refine aF sQ.v ?_
   simp only [go_sem]
   exact sK
 obtain ⟨n,rfl⟩ : ∃ n : Nat,w = n := ⟨w.toNat,by omega⟩
 have hn : n < d.weathers.length := by omega
 have hmm := e1
 simp only [iZ,Bool.and_eq_true] at hmm
 have hB := hmm.2.1
 have dg := jR hB
 have hR := (hS.sub sK).R hmm.1
 simp only [go_sem,t1,k0,k0L,l5,t2,y1,y2,y3,y4,y5]
 refine aU (ACall.vc (first := []) (args := [_]) (xM d v hR)) ?_
 rintro y H1 ⟨s1,hyes,_⟩
 obtain ⟨pv,rfl,hP⟩ := hyes hB
 clear hyes hP
 have m0 := s1.2 _ _ k0
 have m0L : ∀ L,(H1 ++ L)[h.length]? = some (some (.row [v.pl,v.ln,v.pn,v.pe,v.we])) := fun L => aA m0
 simp only [go_sem,m0,m0L,y1,y2,y3,y4,y5]
 refine aU (ACall.vc (first := []) (args := [_,_]) (aJx d v n (hR.sub s1) hB hn)) ?_
 rintro y H2 ⟨s2,rfl⟩
 have n0 := s2.2 _ _ m0
 have n0L : ∀ L,(H2 ++ L)[h.length]? = some (some (.row [v.pl,v.ln,v.pn,v.pe,v.we])) := fun L => aA n0
 simp only [go_sem,n0,n0L,y1,y2,y3,y4,y5]
 refine aU (ACall.vc (first := []) (args := [_,_]) (Only_c d v n (hR.sub (s1.trans s2)) hB hn)) ?_
 rintro y H3 ⟨s3,v',rfl,hR'⟩
 simp only [go_sem]
 refine aU (ACall.vc (first := []) (args := [_]) (xM (bI d n) v' hR')) ?_
 rintro y H4 ⟨s4,hyes,_⟩
 obtain ⟨pv',rfl,hP⟩ := hyes (tJ hB hn)
 clear hyes hP
 simp only [go_sem]
 have sK4 := s1.trans (s2.trans (s3.trans s4))
 have q0 := sK4.2 _ _ k0
 have q0L : ∀ L,(H4 ++ L)[h.length]? = some (some (.row [v.pl,v.ln,v.pn,v.pe,v.we])) := fun L => aA q0
 refine pZ aL [0,1,2,3,4,5,6,7,8] [o_ 51 (.load (.t 2) (some 5)),o_ 52 (.load (.t 2) (some 5)),.call (some 53) none (f_ 40) [(.t 52)]] [([(0,o_ 51 (.load (.t 2) (some 5)))],[.call (some 54) none (f_ 39) [(.t 51),(.t 53)],o_ 50 (m_ 54),o_ 55 (.ext (.t 50) 0),o_ 56 (.ext (.t 50) 1),o_ 13 (m_ 55),o_ 14 (m_ 56)])] rfl rfl (by kernel_rfl) ?_
 simp only [go_sem,q0,q0L,y1,y2,y3,y4,y5]
 refine aU (ACall.vc (first := []) (args := [_]) (yQ d v (hR.sub sK4))) ?_
 rintro y H5 ⟨s5,nv,rfl,hst⟩
 have sK5 := sK4.trans s5
 have r0 := sK5.2 _ _ k0
 have r0L : ∀ L,(H5 ++ L)[h.length]? = some (some (.row [v.pl,v.ln,v.pn,v.pe,v.we])) := fun L => aA r0
 have hbs := uI dg
 have hb1 := hbs.s1
 have hb2 := hbs.s2
 have hb3 := hbs.s3
 have dpn := dg.pn
 have dpe := dg.pe
 simp only [go_sem,r0,r0L,y1,y2,y3,y4,y5]
 refine aF (Cost_c d v (bQ d) nv (hR.sub sK5) hst (by omega) (by omega) (by omega)).v ?_
 have hcs : (dN d && fU d (bQ d)) = true := by rw [hB,aD0 hbs (by omega)]; rfl
 rw [if_pos hcs,if_pos hcs]
 obtain ⟨g1,g2⟩ := aC8 hB hn
 simp only [go_sem,r0,r0L,g1,g2]
 refine aF sQ.v ?_
 simp only [go_sem]
 exact sK.trans sK5
end Go.Proofs.Ab

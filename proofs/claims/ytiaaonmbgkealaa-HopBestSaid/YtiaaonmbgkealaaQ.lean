/- The own layer under the proofs of this seat, part Q: what calls of the program come to on an abstract heap. No condition. -/
import Derived.Test.YtiaaonmbgkealaaP
set_option linter.unusedSimpArgs false
set_option linter.unusedVariables false
namespace Go.Proofs.Ab
open Go Go.Proofs
section
variable {d : aO}
theorem zK {f : Nat → Int} : ∀ (l : List Nat) (b : Int),l.foldl (fun m g => max m (f g)) b = b ∨ ∃ g ∈ l,f g = l.foldl (fun m g => max m (f g)) b
 | [],b => .inl rfl
 | x :: l,b => by
  rw [List.foldl_cons]
  rcases zK (f := f) l (max b (f x)) with h | ⟨g,hg,h⟩
  · rcases Int.le_total b (f x) with e | e
    · right; exact ⟨x,by simp,by rw [h]; omega⟩
    · left; rw [h]; omega
  · exact .inr ⟨g,by simp [hg],h⟩
end
section
variable {d : aO}
theorem aAx (n : Int) (l : List Int) : dI d (n :: l) = (d.people.getD n.toNat ⟨0,0,0,0,0⟩).seats + dI d l := by
 have key : ∀ (l : List Int) (a : Int),l.foldl (fun a n => a + (d.people.getD n.toNat ⟨0,0,0,0,0⟩).seats) a = a + l.foldl (fun a n => a + (d.people.getD n.toNat ⟨0,0,0,0,0⟩).seats) 0 := by
  intro l
  induction l with
  | nil => intro a; simp
  | cons x l ih =>
   intro a
   rw [List.foldl_cons,List.foldl_cons,ih,ih (0 + _)]
   omega
 unfold dI
 rw [List.foldl_cons,key]
 omega
def lO (r : List Int) (gone : Nat) : Nat := r.foldl (fun g n => g ||| 2 ^ n.toNat) gone
theorem aDh {g n m : Nat} : aV (g ||| 2 ^ n) m = (aV g m || decide (n = m)) := by
 rw [dM,dM,Nat.testBit_or,Nat.testBit_two_pow]
theorem yF (m : Nat) : ∀ (r : List Int) (gone : Nat),(∀ n ∈ r,0 ≤ n) → aV (lO r gone) m = (aV gone m || r.any fun n => n == (m : Int))
 | [],gone,_ => by simp [lO]
 | n :: r,gone,h => by
  have ih := yF m r (gone ||| 2 ^ n.toNat) fun x hx => h x (by simp [hx])
  have hn := h n (by simp)
  have e : lO (n :: r) gone = lO r (gone ||| 2 ^ n.toNat) := rfl
  have e2 : decide (n.toNat = m) = (n == (m : Int)) := by rw [Bool.eq_iff_iff]; simp; omega
  rw [e,ih,aDh,List.any_cons,Bool.or_assoc,e2]
theorem aCQ {s : aD} {op : Int} {u : List aC} : ∀ (r : List aC) (i : Nat),rL d s op u r i = none → ∀ j,i ≤ j → j < i + r.length → mR d s op u j = 1
 | [],i,_,j,h1,h2 => by simp at h2; omega
 | x :: r,i,h,j,h1,h2 => by
  rw [rL] at h
  split at h
  · cases h
  · rename_i e
    rcases Nat.lt_or_ge i j with h3 | h3
    · exact aCQ r (i + 1) h j (by omega) (by simp at h2; omega)
    · obtain rfl : j = i := by omega
      exact Classical.byContradiction fun hc => e hc
end
section
variable {d : aO} {pol : fO}
theorem aGN {w w' t : Nat} (dg : dC d) (hw : w < d.weathers.length) (hw' : w' < d.weathers.length) (ht : t < aJ d) (h : ∀ j,j ≤ t → wAt d w j = wAt d w' j) : aZ d w w' t = true := by
 have h1 : (fJ d w).length = aJ d := by rw [jK hw]; exact (dg.rows _ (qG hw)).1
 have h2 : (fJ d w').length = aJ d := by rw [jK hw']; exact (dg.rows _ (qG hw')).1
 refine decide_eq_true (List.ext_getElem (by simp [h1,h2]) fun j a b => ?_)
 rw [List.length_take] at a b
 rw [List.getElem_take,List.getElem_take]
 have := h j (by omega)
 simp only [wAt] at this
 change (fJ d w).getD j 0 = (fJ d w').getD j 0 at this
 rw [aI (by omega),aI (by omega)] at this
 exact this
end
section
variable {d : aO}
def gB (d : aO) (w : Nat) : aO := ⟨d.places,d.links,d.planes,d.people,[weaOf d w]⟩
where weaOf (d : aO) (w : Nat) : List Int := d.weathers.getD w []
theorem vO (dg : dC d) {w : Nat} (hw : w < d.weathers.length) : aJ (gB d w) = aJ d := by
 have h1 : (fJ d w).length = aJ d := by rw [jK hw]; exact (dg.rows _ (qG hw)).1
 exact h1
theorem vP (hB : eE d = true) {w : Nat} (hw : w < d.weathers.length) : eE (gB d w) = true := by
 have sp := lQ.1 hB
 have dg := gT hB
 refine lQ.2 ⟨sp.n,sp.l,sp.p,sp.q,by simp [gB,inB],by rw [vO dg hw]; exact sp.s,sp.br,sp.lk,sp.pn,sp.pe,fun j hj => ?_,sp.cr⟩
 have : j = 0 := by have : (gB d w).weathers.length = 1 := rfl; omega
 subst this
 rw [vO dg hw]
 exact sp.we w hw
end
end Go.Proofs.Ab
namespace Go.Proofs.Ab
open Go Go.Proofs
variable {w0 : World} {h : Heap}
attribute [local irreducible] ACall bY dD bA bX rvC lp rg dr ex un rv
def slK2 (p : Pl) (len es es' : Nat) (full : Bool) (b : Option (Nat × Nat × Option Nat)) : Option AV := b.map fun b => .sl (p.add (b.1 * es)) (b.2.1 - b.1) es' (fB b.2.2 b.2.1 (full && b.2.1 == len))
@[go_sem] theorem slK2_s {p : Pl} {len es es' l h : Nat} {full : Bool} {m : Option Nat} : slK2 p len es es' full (some (l,h,m)) = some (.sl (p.add (l * es)) (h - l) es' (fB m h (full && h == len))) := (rfl)
@[go_sem] theorem slK2_i {p : Pl} {len es es' : Nat} {full : Bool} {c : Prop} [Decidable c] {x : Nat × Nat × Option Nat} : slK2 p len es es' full (if c then some x else none) = if c then slK2 p len es es' full (some x) else none := by split <;> rfl
theorem aLy (d : aO) (v : bO) (w : Nat) (hR : gJ w0 h d v) (hB : eE d = true) (hw : w < d.weathers.length) : ACall Try.prog w0 34 [.agg (aX v),.int .i64 (w : Int)] h fun y H => aB h H ∧ y = .tup [.int .i64 (fK (gB d w)).2,.int .i64 0] := by
 refine aY aM aCX aF4 aF3 (qE rfl) fun hb ha => aU ?_
 obtain ⟨y1,y2,y3,y4,y5⟩ := hR.ones
 obtain ⟨l1,l2,l3,l4,l5⟩ := hR.lens
 have dg := gT hB
 have w1 := dg.w1
 obtain ⟨rows,r1,r2,r3⟩ := hR.weathers
 rcases r2 with ⟨_,e⟩ | ⟨p,full,⟨es',e1,he⟩,hp,hr⟩
 · subst e; simp at r1; omega
 obtain ⟨K,eK⟩ : ∃ K,K = h ++ [some (Blk.row [v.pl,v.ln,v.pn,v.pe,v.we])] := ⟨_,rfl⟩
 have sK : aB h K := eK ▸ aB.refl.app
 have k0 : K[h.length]? = some (some (.row [v.pl,v.ln,v.pn,v.pe,v.we])) := by rw [eK]; simp
 have k0L := xL k0
 have hin : inB (w : Int) 0 ((d.weathers.length : Int) - 1) = true := by simp [inB]; omega
 simp only [go_sem,mf34,aX,y1,y2,y3,y4,y5]
 rw [← eK]
 refine aF (tG d v (hR.sub sK)).v ?_
 rw [hB]
 simp only [go_sem,k0,k0L,l5]
 refine ⟨(by unfold I64; omega),?_⟩
 refine aF (lX _ _ _).v ?_
 rw [hin]
 have d1 : bU (.int .i64 (w : Int)) = some w := kQ
 simp only [go_sem,k0,k0L,e1,d1]
 have hs : ∀ fr lo hi mx,uG 1 fr (.sl p rows.length es' full) lo hi mx = slK2 p rows.length 1 es' full (cT fr rows.length lo hi mx) := fun fr lo hi mx => by simp only [uG,he,if_true]; rfl
 have d2 : bU (.int .i64 ((w : Int) + 1)) = some (w + 1) := by rw [show ((w : Int) + 1) = ((w + 1 : Nat) : Int) by omega]; exact kQ
 have d3 : (0 : Int) ≤ w := by omega
 have d4 : (0 : Int) ≤ (w : Int) + 1 := by omega
 have d5 : ((w : Int) + 1).toNat = w + 1 := by omega
 have d6 : w ≤ w + 1 := by omega
 have d7 : w + 1 ≤ rows.length := by omega
 have d8 : w + 1 - w = 1 := by omega
 refine ⟨(by unfold I64; omega),?_⟩
 simp only [go_sem,hs,d1,d2,d3,d4,d5,d6,d7,d8]
 obtain ⟨fl,efl⟩ : ∃ fl,fl = (full && w + 1 == rows.length) := ⟨_,rfl⟩
 rw [← efl]
 obtain ⟨wv,ewv⟩ : ∃ wv,wv = AV.sl (p.add (w * 1)) 1 es' fl := ⟨_,rfl⟩
 rw [← ewv]
 have owv : one wv = true := by rw [ewv]; rfl
 obtain ⟨K2,eK2⟩ : ∃ K2,K2 = K.set h.length (some (Blk.row [v.pl,v.ln,v.pn,v.pe,wv])) := ⟨_,rfl⟩
 have sK2 : aB h K2 := by rw [eK2]; exact sK.setR (Nat.le_refl _)
 have j0 : K2[h.length]? = some (some (.row [v.pl,v.ln,v.pn,v.pe,wv])) := by rw [eK2]; exact qF (aN k0)
 have j0L := xL j0
 simp only [go_sem,k0]
 rw [← eK2]
 simp only [go_sem,j0,j0L,y1,y2,y3,y4,owv]
 obtain ⟨v',ev'⟩ : ∃ v' : bO,v' = ⟨v.pl,v.ln,v.pn,v.pe,wv⟩ := ⟨_,rfl⟩
 have hB' := vP hB hw
 have dg' := gT hB'
 have hwr : w < rows.length := by omega
 have hwe : LI w0 h wv [gB.weaOf d w] := by
  refine ⟨[rows[w]],rfl,.inr ⟨p.add (w * 1),fl,⟨es',by rw [ewv]; rfl,(by cases p with | old a => simp [eQ,Pl.add] | own i o => simpa [eQ,Pl.add] using he)⟩,(by cases p with | old a => simp [Pl.bdd,Pl.add] | own i o => simpa [Pl.bdd,Pl.add] using hp),fun j c hc => ?_⟩,fun j x c hx hc => ?_⟩
  · have hj := aN hc
    have : j = 0 := by simp at hj; exact hj
    subst this
    rw [Pl.add_add]
    simp only [List.getElem?_cons_zero,Option.some.injEq] at hc
    subst hc
    simpa using hr w _ (qA hwr)
  · have hj := aN hc
    have : j = 0 := by simp at hj; exact hj
    subst this
    simp only [List.getElem?_cons_zero,Option.some.injEq] at hc hx
    subst hc hx
    refine r3 w _ _ ?_ (qA hwr)
    rw [gB.weaOf,aI hw]; exact qA hw
 have hR' : gJ w0 h (gB d w) v' := by
  rw [ev']
  refine ⟨⟨hR.places,hR.links,hR.planes,hR.people,hwe⟩,hR.l1,hR.l2,hR.l3,hR.l4,by simp [gB],fun x hx => ?_⟩
  have := (dg'.rows x hx).1
  have := dg'.s1
  omega
 obtain ⟨H1,eH1⟩ : ∃ H1,H1 = K2 ++ [some (Blk.map []),some (Blk.row [v.pl,v.ln,v.pn,v.pe,wv,AV.map K2.length])] := ⟨_,rfl⟩
 have sH1 : aB h H1 := eH1 ▸ sK2.trans aB.refl.app
 have hl1 : H1.length = K2.length + 2 := by rw [eH1]; simp
 have lK2 := sK2.1
 have g1 : H1[K2.length]? = some (some (.map [])) := by rw [eH1]; simp
 have g2 : H1[K2.length + 1]? = some (some (.row (aX v' ++ [.map K2.length]))) := by rw [eH1,ev']; simp [aX]
 rw [← eH1]
 have hsm : aB h (msk [K2.length] H1) := by
  have := (aB.toK (C := []) sH1).mskm (ms := []) (ns := [K2.length]) (by simp) fun c hc => .inr (by simp only [List.mem_singleton] at hc; omega)
  simpa [msk] using this
 have I : jZ w0 (gB d w) v' (K2.length + 1) K2.length [K2.length] H1 := by
  refine ⟨aK0 hB' ?_ (hR'.sub hsm),by simp,fun c hc => by simp only [List.mem_singleton] at hc; omega,[],g1,fun K c hc => by cases hc⟩
  rw [bE (by simp)]; exact g2
 refine aR (ACall.vc (first := []) (args := [_]) (aDi (gB d w) v' (.map K2.length) (K2.length + 1) (I.hD.sub bS) dg')) ?_
 rintro y H2 ⟨s1,nv,rfl,hst⟩
 have hst' := hst [K2.length] fun c hc => by simp only [List.mem_singleton] at hc; omega
 have I2 : jZ w0 (gB d w) v' (K2.length + 1) K2.length [K2.length] H2 := I.keep (C := []) s1.toK (by simp) (by rw [g1,s1.2 _ _ g1])
 obtain ⟨o1,o2,o3⟩ := (hst'.sub bS).ones
 have hc := (vF (gB d w) v' (K2.length + 1) K2.length dg' (aJ (gB d w))).1 0 1 (bL (gB d w)) nv [K2.length] H2 (by omega) (by decide) (mM dg') I2 hst'
 simp only [go_sem,stC,o1,o2,o3]
 refine aR (ACall.vc (first := []) (args := [_,_,_,_]) hc) ?_
 rintro y H3 ⟨e3,k3,_⟩
 subst e3
 simp only [go_sem]
 refine ⟨⟨Nat.le_trans sH1.1 (Nat.le_trans s1.1 k3.le),fun i b e => ?_⟩,rfl⟩
 have hi := aP e
 exact k3.at_ _ _ (by simp; omega) (s1.2 _ _ (sH1.2 _ _ e))
theorem Only_c (d : aO) (v : bO) (w : Nat) (hR : gJ w0 h d v) (hB : eE d = true) (hw : w < d.weathers.length) : ACall Try.prog w0 38 [.agg (aX v),.int .i64 (w : Int)] h fun y H => aB h H ∧ ∃ v',y = .agg (aX v') ∧ gJ w0 H (gB d w) v' := by
 refine aY aM aJh mf38_b mf38_g (qE rfl) fun hb ha => aU ?_
 obtain ⟨y1,y2,y3,y4,y5⟩ := hR.ones
 obtain ⟨p,x,p1,p2,p3⟩ := hR.weathers.at_ hw
 have ox := p3.one.1
 have d1 : bU (.int .i64 (w : Int)) = some w := kQ
 obtain ⟨K,eK⟩ : ∃ K,K = h ++ [some (Blk.row [v.pl,v.ln,v.pn,v.pe,v.we]),some (Blk.row [AV.nilS,AV.nilS,AV.nilS,AV.nilS,AV.nilS])] := ⟨_,rfl⟩
 have sK : aB h K := eK ▸ aB.refl.app
 have kl : K.length = h.length + 2 := by rw [eK]; simp
 have k0 : K[h.length]? = some (some (.row [v.pl,v.ln,v.pn,v.pe,v.we])) := by rw [eK]; simp
 have k1 : K[h.length + 1]? = some (some (.row [.nilS,.nilS,.nilS,.nilS,.nilS])) := by rw [eK]; simp
 have k0L := xL k0
 have q2 : ∀ L,rd w0 (K ++ L) p = some x := fun L => by
  have := p2 (K.drop h.length ++ L)
  rw [← List.append_assoc] at this
  have e : h ++ K.drop h.length = K := by rw [eK]; simp
  rwa [e] at this
 have q2' := q2 []
 rw [List.append_nil] at q2'
 simp only [go_sem,mf38,aX,y1,y2,y3,y4,y5]
 rw [← eK]
 simp only [go_sem,k0,k0L,p1,q2,q2',ox,p3.one.2]
 obtain ⟨K2,eK2⟩ : ∃ K2,K2 = K ++ [some (Blk.row [x])] := ⟨_,rfl⟩
 have s2 : aB K K2 := eK2 ▸ aB.refl.app
 have j0 := s2.2 _ _ k0
 have j1 := s2.2 _ _ k1
 have j2 : K2[K.length]? = some (some (.row [x])) := by rw [eK2]; simp
 rw [← eK2]
 obtain ⟨wv,ewv⟩ : ∃ wv,wv = AV.sl (.own K.length 0) 1 1 true := ⟨_,rfl⟩
 rw [← ewv]
 have owv : one wv = true := by rw [ewv]; rfl
 obtain ⟨K3,eK3⟩ : ∃ K3,K3 = K2.set h.length (some (Blk.row [v.pl,v.ln,v.pn,v.pe,wv])) := ⟨_,rfl⟩
 have i0 : K3[h.length]? = some (some (.row [v.pl,v.ln,v.pn,v.pe,wv])) := by rw [eK3]; exact qF (aN j0)
 have i1 : K3[h.length + 1]? = some (some (.row [.nilS,.nilS,.nilS,.nilS,.nilS])) := by rw [eK3,qB (by omega)]; exact j1
 have i2 : K3[K.length]? = some (some (.row [x])) := by rw [eK3,qB (by omega)]; exact j2
 rw [← eK3]
 have z1 : (K3.set (h.length + 1) (some (Blk.row [v.pl,v.ln,v.pn,v.pe,wv])))[h.length + 1]? = some (some (Blk.row [v.pl,v.ln,v.pn,v.pe,wv])) := qF (aN i1)
 simp only [go_sem,i0,i1,y1,y2,y3,y4,owv,z1]
 obtain ⟨K4,eK4⟩ : ∃ K4,K4 = K3.set (h.length + 1) (some (Blk.row [v.pl,v.ln,v.pn,v.pe,wv])) := ⟨_,rfl⟩
 rw [← eK4]
 have s4 : aB h K4 := by
  rw [eK4,eK3]; exact ((sK.trans s2).setR (Nat.le_refl _)).setR (by omega)
 have i4 : K4[K.length]? = some (some (.row [x])) := by rw [eK4,qB (by omega)]; exact i2
 refine ⟨s4,⟨v.pl,v.ln,v.pn,v.pe,wv⟩,rfl,?_⟩
 have hB' := vP hB hw
 have dg' := gT hB'
 have hwe : LI w0 K4 wv [gB.weaOf d w] := by
  refine ⟨[[x]],rfl,?_,fun j y c hx hc => ?_⟩
  · rw [ewv]
    exact eP (rows := [[x]]) (by simpa using i4) (fun c hc => by simp only [List.mem_singleton] at hc; subst hc; rfl)
  · have hj := aN hc
    have : j = 0 := by simp at hj; exact hj
    subst this
    simp only [List.getElem?_cons_zero,Option.some.injEq] at hc hx
    subst hc hx
    refine ⟨x,rfl,?_⟩
    have := Sl.sub p3 s4
    rw [gB.weaOf,aI hw]
    exact this
 refine ⟨⟨hR.places.sub s4,hR.links.sub s4,hR.planes.sub s4,hR.people.sub s4,hwe⟩,hR.l1,hR.l2,hR.l3,hR.l4,by simp [gB],fun x hx => ?_⟩
 have := (dg'.rows x hx).1
 have := dg'.s1
 omega
end Go.Proofs.Ab

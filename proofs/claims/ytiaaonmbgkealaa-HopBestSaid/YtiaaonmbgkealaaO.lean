/- The own layer under the proofs of this seat, part O: what calls of the program come to on an abstract heap. No condition. -/
import Derived.Test.YtiaaonmbgkealaaM
set_option linter.unusedSimpArgs false
set_option linter.unusedVariables false
namespace Go.Proofs.Ab
open Go Go.Proofs
variable {w0 : World} {h : Heap}
attribute [local irreducible] ACall bY dD bA bX rvC lp rg dr ex un rv
section
variable {s : aD} {v : StV}
theorem StS.lens (a : StS w0 h s v) : fN v.pl = some (.int .i64 s.planes.length) ∧ fN v.le = some (.int .i64 s.legs.length) ∧ fN v.pe = some (.int .i64 s.people.length) := ⟨(SlI.use a.planes.s).1,(SlI.use a.legs.s).1,(SlI.use a.people.s).1⟩
theorem StS.ones (a : StS w0 h s v) : one v.pl = true ∧ one v.le = true ∧ one v.pe = true := ⟨a.planes.s.one.1,a.legs.s.one.1,a.people.s.one.1⟩
theorem SlI.at_ {x : AV} {l : List Int} (a : SlI w0 h x l) {j : Nat} (hj : j < l.length) : ∃ p : Pl,bT 1 x (some j) = some (.ptr p) ∧ (∀ L,rd w0 (h ++ L) p = some (.int .i64 l[j])) ∧ rd w0 h p = some (.int .i64 l[j]) := by
 obtain ⟨_,q,qi,qr⟩ := SlI.use a
 have := qr j hj []
 rw [List.append_nil] at this
 exact ⟨_,qi j hj,qr j hj,this⟩
end
theorem UnV.at_ {u : List aC} {v : AV} (a : UnV w0 h v u) {j : Nat} (hj : j < u.length) : ∃ (p : Pl) (pv : AV),bT 2 v (some j) = some (.ptr p) ∧ (∀ L,rdn w0 (h ++ L) p 2 = some [.int .i64 u[j].to,pv]) ∧ (∀ L,rd w0 (h ++ L) (p.add 0) = some (.int .i64 u[j].to)) ∧ (∀ L,rd w0 (h ++ L) (p.add 1) = some pv) ∧ SlI w0 h pv u[j].people := by
 obtain ⟨p,c,p1,p2,pv,rfl,p3⟩ := NS.at_ a hj
 exact ⟨p,pv,p1,p2,fun L => cC (p2 L) rfl,fun L => cC (p2 L) rfl,p3⟩
def pkB (m : Nat) (l : List Int) (k : Nat) : Bool := inB (l.getD k 0) 0 ((m : Int) - 1) && (decide (k = 0) || decide (l.getD (k - 1) 0 < l.getD k 0))
def flB (d : aO) (x : aC) : Bool := (inB x.to (-1) ((d.places.length : Int) - 1) && (decide (0 ≤ x.to) || decide (x.people.length = 0))) && (List.range x.people.length).all (pkB d.people.length x.people)
def tO (d : aO) (u : List aC) : Bool := u.all (flB d) && decide (u.length = d.planes.length)
theorem pk_lt {m : Nat} {l : List Int} (h : (List.range l.length).all (pkB m l) = true) : (∀ n ∈ l,0 ≤ n ∧ n < m) ∧ l.Pairwise (· < ·) := by
 have h1 := cR.1 h
 refine ⟨fun n hn => ?_,?_⟩
 · obtain ⟨i,hi,rfl⟩ := List.getElem_of_mem hn
   have := h1 i hi
   simp only [pkB,aI hi,inB,Bool.and_eq_true,decide_eq_true_eq] at this
   omega
 · rw [List.pairwise_iff_getElem]
   have key : ∀ (k i j : Nat) (hi : i < l.length) (hj : j < l.length),j = i + 1 + k → l[i] < l[j] := by
    intro k
    induction k with
    | zero =>
     intro i j hi hj e
     have := h1 j hj
     simp only [pkB,aI hj,Bool.and_eq_true,Bool.or_eq_true,decide_eq_true_eq] at this
     have h2 : l.getD (j - 1) 0 = l[i] := by rw [show j - 1 = i by omega,aI hi]
     rw [h2] at this
     omega
    | succ k ih =>
     intro i j hi hj e
     have a := ih i (j - 1) hi (by omega) (by omega)
     have := h1 j hj
     simp only [pkB,aI hj,Bool.and_eq_true,Bool.or_eq_true,decide_eq_true_eq,aI (show j - 1 < l.length by omega)] at this
     omega
   exact fun i j hi hj hij => key (j - i - 1) i j hi hj (by omega)
theorem aIg {d : aO} {u : List aC} (h : tO d u = true) : kI d u := by
 simp only [tO,flB,Bool.and_eq_true,List.all_eq_true,decide_eq_true_eq] at h
 obtain ⟨h1,h2⟩ := h
 have h3 : ∀ x ∈ u,(List.range x.people.length).all (pkB d.people.length x.people) = true := fun x hx => List.all_eq_true.2 (h1 x hx).2
 refine ⟨h2,fun x hx => ?_,fun x hx ht => ?_,fun x hx => pk_lt (h3 x hx)⟩
 · have := (h1 x hx).1.1
   simp only [inB,Bool.and_eq_true,decide_eq_true_eq] at this
   omega
 · have := (h1 x hx).1.2
   simp only [Bool.or_eq_true,decide_eq_true_eq] at this
   exact List.eq_nil_of_length_eq_zero (by omega)
theorem kI.ok {d : aO} {u : List aC} (a : kI d u) (h4 : d.people.length ≤ 4) : aCx d u := by
 refine ⟨a.len,fun x hx => (a.to x hx).2,fun x hx => (a.pp x hx).1,fun x hx => ?_⟩
 obtain ⟨h1,h2⟩ := a.pp x hx
 have key : ∀ (l : List Int) (b : Int),l.Pairwise (· < ·) → (∀ n ∈ l,b ≤ n ∧ n < 4) → (l.length : Int) ≤ 4 - b ∨ l = [] := by
  intro l
  induction l with
  | nil => intro b _ _; exact .inr rfl
  | cons a l ih =>
   intro b hp hb
   obtain ⟨p1,p2⟩ := List.pairwise_cons.1 hp
   have hab := hb a (by simp)
   rcases ih (a + 1) p2 (fun n hn => ⟨by have := p1 n hn; omega,(hb n (by simp [hn])).2⟩) with h | h
   · left; simp; omega
   · subst h; left; simp; omega
 rcases key x.people 0 h2 (fun n hn => by have := h1 n hn; omega) with h | h
 · omega
 · rw [h]; simp
section
variable {d : aO} {v : bO} {m : AV} {i ib : Nat}
end
section
variable {d : aO} {v : bO} {m : AV} {i ib ix : Nat}
end
theorem aK0 {d : aO} {v : bO} {m : AV} {i : Nat} (e : eE d = true) (hd : h[i]? = some (some (.row (aX v ++ [m])))) (hR : gJ w0 h d v) : pG w0 h d v m i := by
 have dg := gT e
 exact ⟨hd,hR,dg.pe,dg.pn,fun p hp => by have := (dg.people p hp).2.2.1; omega⟩
theorem iZ.set {H : Heap} {N k : Nat} {y : AV} {l : List Int} {c c' : List AV} (a : iZ w0 H N y l) (hk : H[k]? = some (some (.row c))) (hc : c'.length = c.length) (hN : k < N) : iZ w0 (H.set k (some (.row c'))) N y l := by
 obtain ⟨id,i1,a1⟩ := a.i
 exact (a1.set (c' := c') hk hc fun e => by have := i1 e; omega).toL (Nat.le_refl _)
theorem aAe.set {H : Heap} {N k : Nat} {s : aD} {sv : StV} {c c' : List AV} (a : aAe w0 H N s sv) (hk : H[k]? = some (some (.row c))) (hc : c'.length = c.length) (hN : k < N) : aAe w0 (H.set k (some (.row c'))) N s sv := ⟨a.p.set hk hc hN,a.l.set hk hc hN,a.e.set hk hc hN⟩
theorem aAe.here {H : Heap} {N : Nat} {s : aD} {sv : StV} (a : aAe w0 H N s sv) : StS w0 H s sv := ⟨a.p.o,a.l.o,a.e.o⟩
theorem aG6 (to : Int) (p : List Int) : ∀ l : List Int,(p.foldl (fun l n => l.set n.toNat to) l).length = l.length := by
 induction p with
 | nil => intro l; rfl
 | cons a p ih => intro l; rw [List.foldl_cons,ih,List.length_set]
theorem aEr (n : aD) (i : Nat) (x : aC) : (iT n i x).planes.length = n.planes.length ∧ (iT n i x).legs.length = n.legs.length ∧ (iT n i x).people.length = n.people.length :=
 ⟨List.length_set,List.length_set,aG6 _ _ _⟩
section
variable {d : aO} {v : bO} {s : aD} {sv : StV}
theorem aIB (hR : gJ w0 h d v) (hs : StS w0 h s sv) (dg : dC d) (sk : jN d s) (pat : ∀ x ∈ s.people,0 ≤ x ∧ x < d.places.length) : bA Try.prog w0 54 [.agg (aX v),.agg (stC sv)] h (.int .i64 (wJ d s)) h := by
 refine aQ aM aJb mf54_b mf54_g (qE rfl) (by simp [AV.bdd,AV.bdds]) fun hb ha => aU ?_
 obtain ⟨o1,o2,o3,o4,o5⟩ := hR.ones
 obtain ⟨l1,l2,l3,l4,l5⟩ := hR.lens
 obtain ⟨q1,q2,q3⟩ := hs.ones
 obtain ⟨k1,k2,k3⟩ := hs.lens
 have dp := dg.pn
 have dl := dg.pe
 obtain ⟨G,eG⟩ : ∃ G,G = h ++ [some (Blk.row [v.pl,v.ln,v.pn,v.pe,v.we]),some (Blk.row [sv.pl,sv.le,sv.pe])] := ⟨_,rfl⟩
 have sG : aB h G := eG ▸ aB.refl.app
 have g0 : G[h.length]? = some (some (.row [v.pl,v.ln,v.pn,v.pe,v.we])) := by rw [eG]; simp
 have g1 : G[h.length + 1]? = some (some (.row [sv.pl,sv.le,sv.pe])) := by rw [eG]; simp
 have b0 := xL g0
 have b1 := xL g1
 simp only [go_sem,mf54,aX,stC,o1,o2,o3,o4,o5,q1,q2,q3]
 rw [← eG]
 have hRG := hR.sub sG
 have hsG := hs.sub sG
 refine cU (S := Unit) (fun j _ => [(2,.ptr (.own h.length 0)),(3,.ptr (.own (h.length + 1) 0)),(5,.int .i64 (kY (iN d s) j)),(6,.int .i64 j)]) (fun _ _ => G) (fun _ _ => True) d.planes.length () trivial rfl rfl (fun j _ hj _ ih => ?_) (fun _ _ => ?_)
 · refine aE aM aDN [2,3,5,6] L54_0.eq_1 ?_
   obtain ⟨p,p1,p0⟩ := hRG.toDayS.plane hj
   have p2 : ∀ L,rd w0 (G ++ L) (p.add 1) = some (.int .i64 d.planes[j].home) := fun L => cC (p0 L) rfl
   have p3 : ∀ L,rd w0 (G ++ L) (p.add 4) = some (.int .i64 d.planes[j].away) := fun L => cC (p0 L) rfl
   have p2' := p2 []
   have p3' := p3 []
   rw [List.append_nil] at p2' p3'
   have hjs : j < s.planes.length := by rw [sk.s1]; exact hj
   obtain ⟨a,a1,a2,a3⟩ := hsG.planes.s.at_ hjs
   have e3 : (j : Int) < s.planes.length := by omega
   have hbd := kK (by omega) (oH dg s) j
   have hbj := oH dg s j
   have ej : iN d s j = if s.planes[j] = d.planes[j].home then 0 else d.planes[j].away := by rw [iN,aI hjs,aI hj]
   have en : kY (iN d s) (j + 1) = kY (iN d s) j + iN d s j := rfl
   have ih := ih () trivial
   rw [en,ej] at ih
   rw [ej] at hbj
   simp only [go_sem,g0,b0,g1,b1,p1,p2,p2',p3,p3',a1,a2,a3,e3,k1]
   refine ⟨fun e => ⟨?_,(by unfold I64; omega),?_⟩,fun e => ⟨(by unfold I64; omega),?_⟩⟩
   · rw [if_neg e] at hbj; constructor <;> omega
   · rw [if_neg e] at ih; exact ih
   · rw [if_pos e,Int.add_zero] at ih; exact ih
 refine aE aM aDN [2,3,5,6] L54_0.eq_1 ?_
 have e3 : ¬ (d.planes.length : Int) < s.planes.length := by have := sk.s1; omega
 simp only [go_sem,g0,b0,g1,b1,e3,k1]
 refine cU (S := Unit) (fun j _ => [(2,.ptr (.own h.length 0)),(3,.ptr (.own (h.length + 1) 0)),(5,.int .i64 (kY (iN d s) d.planes.length + kY (fV d s) j)),(7,.int .i64 j)]) (fun _ _ => G) (fun _ _ => True) d.people.length () trivial (by simp [kY]) rfl (fun j _ hj _ ih => ?_) (fun _ _ => ?_)
 · refine aE aM aDM [2,3,5,7] L54_1.eq_1 ?_
   obtain ⟨p,p1,p0⟩ := hRG.toDayS.person hj
   have p2 : ∀ L,rd w0 (G ++ L) (p.add 1) = some (.int .i64 d.people[j].to) := fun L => cC (p0 L) rfl
   have p3 : ∀ L,rd w0 (G ++ L) (p.add 3) = some (.int .i64 d.people[j].strand) := fun L => cC (p0 L) rfl
   have p4 : ∀ L,rd w0 (G ++ L) (p.add 4) = some (.int .i64 d.people[j].lodged) := fun L => cC (p0 L) rfl
   have p2' := p2 []
   have p3' := p3 []
   have p4' := p4 []
   rw [List.append_nil] at p2' p3' p4'
   have hjs : j < s.people.length := by rw [sk.s3]; exact hj
   obtain ⟨a,a1,a2,a3⟩ := hsG.people.s.at_ hjs
   have e4 : (j : Int) < s.people.length := by omega
   have hp := pat _ (qG hjs)
   obtain ⟨x,ex'⟩ : ∃ x : Nat,s.people[j] = x := ⟨s.people[j].toNat,by omega⟩
   have hxl : x < d.places.length := by omega
   obtain ⟨z,z1,z0⟩ := hRG.toDayS.place hxl
   have z2 : ∀ L,rd w0 (G ++ L) (z.add 1) = some (.bool d.places[x].lodge) := fun L => cC (z0 L) rfl
   have z2' := z2 []
   rw [List.append_nil] at z2'
   have an : s.people[j].toNat = x := by omega
   have hp0 := hp.1
   have hb1 := kK (by omega) (oH dg s) d.planes.length
   have hb2 := kK (by omega) (oR dg s) j
   have hbj := oR dg s j
   have ej : fV d s j = if s.people[j] = d.people[j].to then 0 else if d.places[x].lodge then d.people[j].lodged else d.people[j].strand := by rw [fV,aI hjs,aI hj,ex',Int.toNat_natCast,aI hxl]
   have en : kY (fV d s) (j + 1) = kY (fV d s) j + fV d s j := rfl
   have ih := ih () trivial
   rw [en,ej,← Int.add_assoc] at ih
   rw [ej] at hbj
   simp only [go_sem,g0,b0,g1,b1,p1,p2,p2',a1,a2,a3,e4,k3]
   refine ⟨fun e => ⟨(by unfold I64; omega),?_⟩,fun e => ?_⟩
   · rw [if_pos e,Int.add_zero] at ih; exact ih
   rw [if_neg e] at ih hbj
   simp only [go_sem,g0,b0,g1,b1,p1,p3,p3',p4,p4',a1,a2,a3,z1,z2,z2',an,hp0]
   refine ⟨fun e' => ⟨?_,(by unfold I64; omega),?_⟩,fun e' => ⟨?_,(by unfold I64; omega),?_⟩⟩
   · rw [if_pos e'] at hbj; constructor <;> omega
   · rw [if_pos e'] at ih; exact ih
   · rw [if_neg (by simp [e'])] at hbj; constructor <;> omega
   · rw [if_neg (by simp [e'])] at ih; exact ih
 refine aE aM aDM [2,3,5,7] L54_1.eq_1 ?_
 have e4 : ¬ (d.people.length : Int) < s.people.length := by have := sk.s3; omega
 simp only [go_sem,g0,b0,g1,b1,e4,k3]
 exact ⟨rfl,_,eG⟩
theorem aEl (a b : Int) (hR : gJ w0 h d v) : bA Try.prog w0 142 [.agg (aX v),.int .i64 a,.int .i64 b] h (.bool (cN d a b)) h := by
 refine nF trivial (aY aM aGc aJK aJJ (qE rfl) fun hb ha => aU ?_)
 obtain ⟨o1,o2,o3,o4,o5⟩ := hR.ones
 obtain ⟨l1,l2,l3,l4,l5⟩ := hR.lens
 have n2 := hR.l2
 obtain ⟨K0,eK0⟩ : ∃ K0 : Heap,K0 = h ++ [some (.row (aX v))] := ⟨_,rfl⟩
 have s0 : aB h K0 := eK0 ▸ aB.refl.app
 have g0 : K0[h.length]? = some (some (.row (aX v))) := by rw [eK0]; simp
 simp only [go_sem,mf142,o1,o2,o3,o4,o5]
 rw [show h ++ [some (Blk.row [v.pl,v.ln,v.pn,v.pe,v.we])] = K0 by rw [eK0]; rfl]
 refine cM (S := Nat × Heap) (F := fun s => [(1,.int .i64 a),(2,.int .i64 b),(3,.ptr (.own h.length 0)),(7,.int .i64 s.1)]) (H := fun s => s.2) (meas := fun s => d.links.length - s.1)
  (Inv := fun s => s.1 ≤ d.links.length ∧ aB K0 s.2 ∧ ∀ (j : Nat) (_ : j < s.1) (hj : j < d.links.length),¬ (d.links[j] = ⟨a,b⟩ ∨ d.links[j] = ⟨b,a⟩)) (0,K0) ⟨Nat.zero_le _,aB.refl,fun j hj => absurd hj (by simp)⟩ rfl rfl ?_
 rintro ⟨j,G⟩ ⟨hj,sG,f1⟩ ih
 simp only at hj sG f1 ih
 refine aE aM aHU [1,2,3,7] L142_0.eq_1 ?_
 have gG := sG.2 _ _ g0
 have bG := xL gG
 rcases Nat.lt_or_ge j d.links.length with hjl | hjl
 · have i3 : (j : Int) < d.links.length := by omega
   obtain ⟨p,p1,p2⟩ := (hR.sub (s0.trans sG)).toDayS.link hjl
   have p2' := p2 []
   rw [List.append_nil] at p2'
   obtain ⟨x,ex⟩ : ∃ x,x = d.links[j] := ⟨_,rfl⟩
   rw [← ex] at p2 p2'
   simp only [go_sem,l2,i3,gG,bG,aX,p1,p2,p2',cG.c]
   have sGL : ∀ L,aB h (G ++ L) := fun L => s0.trans sG.app
   have yes : ∀ L,(x = ⟨a,b⟩ ∨ x = ⟨b,a⟩) → aB h (G ++ L) ∧ AV.bool true = AV.bool (cN d a b) := fun L e => by
    refine ⟨sGL L,?_⟩
    have hm : x ∈ d.links := ex ▸ qG hjl
    have : cN d a b = true := by
     rw [cN,Bool.or_eq_true,List.any_eq_true,List.any_eq_true]
     rcases e with e | e
     · exact .inl ⟨x,hm,decide_eq_true e.symm⟩
     · exact .inr ⟨x,hm,decide_eq_true e.symm⟩
    rw [this]
   have no := fun (e : ¬ (x = ⟨a,b⟩ ∨ x = ⟨b,a⟩)) => ih (j + 1,G ++ [some (Blk.row [.int .i64 x.one,.int .i64 x.other])]) ⟨by simp only; omega,sG.app,fun q hq hq2 => by
    simp only at hq
    rcases Nat.lt_or_ge q j with h1 | h1
    · exact f1 q h1 hq2
    · obtain rfl : q = j := by omega
      rw [← ex]; exact e⟩ (by simp only; omega)
   obtain ⟨x1,x2⟩ := x
   simp only [Int.natCast_add,Int.cast_ofNat_Int] at no
   refine ⟨fun e1 => ⟨fun e2 => ⟨fun e3 => ⟨fun e4 => yes _ (.inr (by cases e3; cases e4; rfl)),fun e4 => ⟨(by unfold I64; omega),no ?_⟩⟩,fun e3 => ⟨(by unfold I64; omega),no ?_⟩⟩,fun e2 => yes _ (.inl (by cases e1; cases e2; rfl))⟩,fun e1 => ⟨fun e3 => ⟨fun e4 => yes _ (.inr (by cases e3; cases e4; rfl)),fun e4 => ⟨(by unfold I64; omega),no ?_⟩⟩,fun e3 => ⟨(by unfold I64; omega),no ?_⟩⟩⟩
   all_goals
    rintro (e | e) <;> cases e
    · first | exact absurd rfl e1 | exact absurd rfl e2
    · first | exact absurd rfl e3 | exact absurd rfl e4
 · have i3 : ¬ (j : Int) < d.links.length := by omega
   obtain rfl : j = d.links.length := by omega
   simp only [go_sem,l2,i3,gG,bG,aX]
   refine ⟨s0.trans sG,?_⟩
   have : cN d a b = false := by
    rw [cN,Bool.or_eq_false_iff,List.any_eq_false,List.any_eq_false]
    constructor
    all_goals
     intro y hy
     obtain ⟨i,hi,rfl⟩ := List.getElem_of_mem hy
     have := f1 i hi hi
     simp only [decide_eq_true_eq]
     intro e
     exact this (by simp [← e])
   rw [this]
end
section
variable {d : aO} {v : bO} {s : aD} {sv : StV}
theorem aHr {o a : Nat} (e : ((o / 2 ^ a % 2 : Nat) : Int) = 0) : aV o a = false := by
 rw [aV]; exact decide_eq_false (by omega)
theorem aDg {o a : Nat} (e : ¬ ((o / 2 ^ a % 2 : Nat) : Int) = 0) : aV o a = true := by
 rw [aV]; exact decide_eq_true (by omega)
theorem aEn (op : Int) (u : List aC) (uv : AV) (i : Nat) (hi : i < u.length) (hR : gJ w0 h d v) (hs : StS w0 h s sv) (hU : UnV w0 h uv u) (dg : dC d) (sk : jN d s) (uk : kI d u) (o1 : 0 ≤ op) (o2 : op < 2 ^ 50) :
 bA Try.prog w0 96 [.agg (aX v),.agg (stC sv),.int .i64 op,uv,.int .i64 i] h (.int .i64 (mR d s op u i)) h := by
 refine aQ aM aIK mf96_b mf96_g (qE rfl) (by simp [AV.bdd,AV.bdds]) fun hb ha => aU ?_
 obtain ⟨y1,y2,y3,y4,y5⟩ := hR.ones
 obtain ⟨l1,l2,l3,l4,l5⟩ := hR.lens
 obtain ⟨q1,q2,q3⟩ := hs.ones
 obtain ⟨k1,k2,k3⟩ := hs.lens
 have hip : i < d.planes.length := by have := uk.len; omega
 obtain ⟨x,ex⟩ : ∃ x,x = u[i] := ⟨_,rfl⟩
 obtain ⟨fp,pv,f1,f2,_,_,f5⟩ := hU.at_ hi
 rw [← ex] at f2 f5
 have opv := f5.one.1
 have lpp := (SlI.use f5).1
 have hxu : x ∈ u := ex ▸ qG hi
 have hto := uk.to x hxu
 have hpp := uk.pp x hxu
 have hpl := (uk.ok dg.pe).pl x hxu
 obtain ⟨G,eG⟩ : ∃ G,G = h ++ [some (Blk.row [v.pl,v.ln,v.pn,v.pe,v.we]),some (Blk.row [sv.pl,sv.le,sv.pe]),some (Blk.row [.int .i64 x.to,pv])] := ⟨_,rfl⟩
 have sG : aB h G := eG ▸ aB.refl.app
 have g0 : G[h.length]? = some (some (.row [v.pl,v.ln,v.pn,v.pe,v.we])) := by rw [eG]; simp
 have g1 : G[h.length + 1]? = some (some (.row [sv.pl,sv.le,sv.pe])) := by rw [eG]; simp
 have g2 : G[h.length + 2]? = some (some (.row [.int .i64 x.to,pv])) := by rw [eG]; simp
 have b0 := xL g0
 have b1 := xL g1
 have b2 := xL g2
 have hx : u.getD i ⟨-1,[]⟩ = x := by rw [aI hi,ex]
 have hRG := hR.sub sG
 have hsG := hs.sub sG
 have hUG := hU.sub sG
 have hpG := Sl.sub f5 sG
 have hjs : i < s.planes.length := by rw [sk.s1]; exact hip
 have hjl : i < s.legs.length := by rw [sk.s2]; exact hip
 obtain ⟨a,a1,a2,a3⟩ := hsG.planes.s.at_ hjs
 obtain ⟨c,c1,c2,c3⟩ := hsG.legs.s.at_ hjl
 obtain ⟨p,p1,p0⟩ := hRG.toDayS.plane hip
 have p2 : ∀ L,rd w0 (G ++ L) (p.add 2) = some (.int .i64 d.planes[i].seats) := fun L => cC (p0 L) rfl
 have p3 : ∀ L,rd w0 (G ++ L) (p.add 3) = some (.int .i64 d.planes[i].duty) := fun L => cC (p0 L) rfl
 have p2' := p2 []
 have p3' := p3 []
 rw [List.append_nil] at p2' p3'
 have hat := sk.at_ _ (qG hjs)
 have dp1 := dg.p1
 have dp2 := dg.pn
 simp only [go_sem,mf96,aX,stC,y1,y2,y3,y4,y5,q1,q2,q3,f1,f2,opv]
 rw [← eG]
 by_cases t0 : x.to < 0
 · simp only [go_sem,t0]
   rw [mR]; simp only [hx]; rw [if_pos t0]
 simp only [go_sem,t0,g0,g1,g2,b0,b1,b2,y1,y2,y3,y4,y5,a1,a2,a3]
 refine aF (aEl s.planes[i] x.to hRG).v ?_
 have hr : mR d s op u i = if !cN d s.planes[i] x.to then 2 else
  if !(aV op.toNat s.planes[i].toNat && aV op.toNat x.to.toNat) then 3 else
  if !decide (s.legs[i] < d.planes[i].duty) then 4 else
  if nV s u i x then 5 else if !decide (dI d x.people ≤ d.planes[i].seats) then 6 else 1 := by
  rw [mR]; simp only [hx]; rw [if_neg t0,aI hjs,aI hjl,aI hip]
 cases r1 : cN d s.planes[i] x.to with
 | false => simp only [go_sem]; exact ⟨by rw [hr,r1]; rfl,_,eG⟩
 | true =>
 obtain ⟨o,eo⟩ : ∃ o : Nat,op = o := ⟨op.toNat,by omega⟩
 obtain ⟨t,et⟩ : ∃ t : Nat,x.to = t := ⟨x.to.toNat,by omega⟩
 obtain ⟨aa,ea⟩ : ∃ a : Nat,s.planes[i] = a := ⟨s.planes[i].toNat,by omega⟩
 have o62 : o < 2 ^ 62 := by omega
 have z1 : bin .shr (.int .i64 op) (.int .i64 x.to) = some (.int .i64 ((o / 2 ^ t : Nat) : Int)) := by rw [eo,et]; exact hT (by omega)
 have z2 : bin .shr (.int .i64 op) (.int .i64 s.planes[i]) = some (.int .i64 ((o / 2 ^ aa : Nat) : Int)) := by rw [eo,ea]; exact hT (by omega)
 have d1 : o / 2 ^ t < 2 ^ 62 := Nat.lt_of_le_of_lt (Nat.div_le_self _ _) o62
 have d2 : o / 2 ^ aa < 2 ^ 62 := Nat.lt_of_le_of_lt (Nat.div_le_self _ _) o62
 have z3 := gZ d1
 have z4 := gZ d2
 have hb2 : (aV op.toNat s.planes[i].toNat && aV op.toNat x.to.toNat) = (aV o aa && aV o t) := by rw [eo,et,ea]; rfl
 simp only [go_sem,z1,z2,z3,z4,g1,b1,g2,b2,a1,a2,a3]
 refine ⟨fun e1 => ⟨fun e2 => ⟨by rw [hr,r1,hb2,aHr e2]; simp,_,eG⟩,fun e2 => ?_⟩,fun e1 => ⟨by rw [hr,r1,hb2,aHr e1]; simp,_,eG⟩⟩
 have r2 : (aV op.toNat s.planes[i].toNat && aV op.toNat x.to.toNat) = true := by rw [hb2,aDg e1,aDg e2]; rfl
 simp only [go_sem,c1,c2,c3,g0,b0,p1,p3,p3']
 refine ⟨fun e3 => ⟨by rw [hr,r1,r2,decide_eq_false (by omega)]; rfl,_,eG⟩,fun e3 => ?_⟩
 have hr2 : mR d s op u i = if nV s u i x then 5 else if !decide (dI d x.people ≤ d.planes[i].seats) then 6 else 1 := by rw [hr,r1,r2,decide_eq_true (by omega)]; rfl
 obtain ⟨bad,ebad⟩ : ∃ bad : Int → Bool,bad = fun n => !(s.people.getD n.toNat 0 == s.planes.getD i 0) || (u.take i).any fun y => y.people.any fun z => z == n := ⟨_,rfl⟩
 have hbad : nV s u i x = x.people.any bad := by rw [nV,ebad]
 refine cU (S := Unit) (fun j _ => [(3,uv),(4,.int .i64 i),(5,.ptr (.own h.length 0)),(6,.ptr (.own (h.length + 1) 0)),(11,.ptr (.own (h.length + 2) 0)),(12,.int .i64 (dI d (x.people.take j))),(13,.int .i64 j)]) (fun _ _ => G) (fun j _ => ∀ k (hk : k < x.people.length),k < j → bad x.people[k] = false) x.people.length () (fun k hk h => absurd h (by simp)) (by rw [List.take_zero]; rfl) rfl (fun j _ hj hall ih => ?_) (fun _ hall => ?_)
 · refine aE aM aDn [3,4,5,6,11,12,13] L96_2.eq_1 ?_
   obtain ⟨n,en⟩ : ∃ n : Nat,x.people[j] = n := ⟨x.people[j].toNat,by have := hpp.1 _ (qG hj); omega⟩
   have hn := hpp.1 _ (qG hj)
   have hnp : n < d.people.length := by omega
   have hns : n < s.people.length := by rw [sk.s3]; omega
   have i3 : (j : Int) < x.people.length := by omega
   obtain ⟨w,w1,w2,w3⟩ := SlI.at_ hpG hj
   obtain ⟨pp,pp1,pp0⟩ := hRG.toDayS.person hnp
   have pp2 : ∀ L,rd w0 (G ++ L) (pp.add 2) = some (.int .i64 d.people[n].seats) := fun L => cC (pp0 L) rfl
   have pp2' := pp2 []
   rw [List.append_nil] at pp2'
   obtain ⟨z,zz1,zz2,zz3⟩ := hsG.people.s.at_ hns
   have hn0 := hn.1
   have an : x.people[j].toNat = n := by omega
   have sbd : ∀ p ∈ d.people,0 ≤ p.seats ∧ p.seats ≤ 1000 := fun p hp => by have := (dg.people p hp).2.2.1; omega
   have bd := sP (d := d) (l := x.people.take (j + 1)) sbd
   rw [List.length_take] at bd
   have etk := tP (d := d) hj
   rw [an,aI hnp] at etk
   have hst : bad x.people[j] = true → mR d s op u i = 5 := fun e => by
    rw [hr2,hbad,List.any_eq_true.2 ⟨_,qG hj,e⟩,if_pos rfl]
   simp only [go_sem,g0,g1,g2,b0,b1,b2,lpp,i3,w1,w2,w3,pp1,pp2,pp2',zz1,zz2,zz3,hn0,an,a1,a2,a3]
   refine ⟨⟨by omega,by omega⟩,fun e => ⟨by rw [hst (by rw [ebad,Bool.or_eq_true,an,aI hns,aI hjs]; left; simpa using e)],_,eG⟩,fun e => ?_⟩
   refine dR (fun k => [(3,uv),(4,.int .i64 i),(5,.ptr (.own h.length 0)),(6,.ptr (.own (h.length + 1) 0)),(11,.ptr (.own (h.length + 2) 0)),(12,.int .i64 (dI d (x.people.take j) + d.people[n].seats)),(13,.int .i64 j),(14,.int .i64 x.people[j]),(15,.int .i64 k)]) (fun k => ((u.getD k ⟨-1,[]⟩).people.any fun z => z == x.people[j]) = false) i rfl (fun k hk _ ih2 => ?_) (fun hall2 => ?_)
   · refine aE aM aDo [3,4,5,6,11,12,13,14,15] L96_1.eq_1 ?_
     have i4 : (k : Int) < i := by omega
     have hku : k < u.length := by omega
     obtain ⟨kp,kv,kf1,_,_,kf4,kf5⟩ := hUG.at_ hku
     have kf4' := kf4 []
     rw [List.append_nil] at kf4'
     have kl := (SlI.use kf5).1
     have kok := (uk.ok dg.pe).pl _ (qG hku)
     rw [aI hku] at ih2
     simp only [go_sem,i4]
     refine dR (fun l => [(3,uv),(4,.int .i64 i),(5,.ptr (.own h.length 0)),(6,.ptr (.own (h.length + 1) 0)),(11,.ptr (.own (h.length + 2) 0)),(12,.int .i64 (dI d (x.people.take j) + d.people[n].seats)),(13,.int .i64 j),(14,.int .i64 x.people[j]),(15,.int .i64 k),(16,.int .i64 l)]) (fun l => ¬ u[k].people.getD l 0 = x.people[j]) u[k].people.length rfl (fun l hl _ ih3 => ?_) (fun hall3 => ?_)
     · refine aE aM aDp [3,4,5,6,11,12,13,14,15,16] L96_0.eq_1 ?_
       have i5 : (l : Int) < u[k].people.length := by omega
       obtain ⟨lw,lw1,lw2,lw3⟩ := SlI.at_ kf5 hl
       rw [aI hl] at ih3
       simp only [go_sem,kf1,kf4,kf4',kl,i5,lw1,lw2,lw3]
       refine ⟨fun e4 => ?_,fun e4 => ⟨(by unfold I64; omega),ih3 e4⟩⟩
       suffices hb : bad x.people[j] = true from ⟨by rw [hst hb],_,eG⟩
       rw [ebad,Bool.or_eq_true]
       right
       rw [List.any_eq_true]
       refine ⟨u[k],List.mem_take_iff_getElem.2 ⟨k,by omega,rfl⟩,?_⟩
       rw [List.any_eq_true]
       exact ⟨_,qG hl,by simp [e4]⟩
     · refine aE aM aDp [3,4,5,6,11,12,13,14,15,16] L96_0.eq_1 ?_
       have i5 : ¬ (u[k].people.length : Int) < u[k].people.length := by omega
       simp only [go_sem,kf1,kf4,kf4',kl,i5]
       refine ⟨(by unfold I64; omega),ih2 ?_⟩
       rw [List.any_eq_false]
       intro z hz
       obtain ⟨l,hl,rfl⟩ := List.getElem_of_mem hz
       have := hall3 l hl
       rw [aI hl] at this
       simpa using this
   · refine aE aM aDo [3,4,5,6,11,12,13,14,15] L96_1.eq_1 ?_
     have i4 : ¬ (i : Int) < i := by omega
     simp only [go_sem,i4]
     rw [etk] at ih
     refine ⟨(by unfold I64; omega),ih () fun k hk hkj => ?_⟩
     rcases Nat.lt_or_ge k j with h1 | h1
     · exact hall k hk h1
     · obtain rfl : k = j := by omega
       rw [ebad,Bool.or_eq_false_iff]
       refine ⟨by rw [an,aI hns,aI hjs]; simp [e],?_⟩
       rw [List.any_eq_false]
       intro y hy
       obtain ⟨q,hq,rfl⟩ := List.mem_take_iff_getElem.1 hy
       have := hall2 q (by omega)
       rw [aI (by omega)] at this
       simp [this]
 refine aE aM aDn [3,4,5,6,11,12,13] L96_2.eq_1 ?_
 have i3 : ¬ (x.people.length : Int) < x.people.length := by omega
 simp only [go_sem,g0,g1,g2,b0,b1,b2,lpp,i3,p1,p2,p2']
 have hb0 : nV s u i x = false := by
  rw [hbad,List.any_eq_false]
  intro z hz
  obtain ⟨k,hk,rfl⟩ := List.getElem_of_mem hz
  simp [hall k hk hk]
 rw [List.take_length]
 exact ⟨fun e => ⟨by rw [hr2,hb0,decide_eq_false (by omega)]; rfl,_,eG⟩,fun e => ⟨by rw [hr2,hb0,decide_eq_true (by omega)]; rfl,_,eG⟩⟩
end
theorem qQ {H : Heap} {v : AV} {l : List Int} (hv : SlO w0 H v l) (hl : l.length < 1000000) : ∃ y H',dH w0 H 1 8 .nilS v = some (y,H') ∧ aB H H' ∧ iZ w0 H' H.length y l := by
 by_cases hl0 : l = []
 · refine ⟨.nilS,H,?_,aB.refl,?_⟩
   · simp [dH,hv.e hl0]
   · subst hl0
     exact ⟨⟨.inl ⟨rfl,rfl⟩,fun _ => rfl⟩,fun e => absurd rfl e,fun _ => .inl rfl⟩
 · rcases hv.s with ⟨_,e2⟩ | ⟨q,full,⟨es',rfl,he⟩,_,s3⟩
   · exact absurd (by simpa using e2) hl0
   · have hr2 := Sl.all (by simpa using hl0) s3
     have hlen : l.length ≠ 0 := fun e => hl0 (List.eq_nil_of_length_eq_zero e)
     have ho : (aS l).all one = true := by simp [aS,List.all_eq_true,one]
     have hsz : l.length * (8 + 1) ≤ 2 ^ 40 := by omega
     rw [← dL,List.length_map,Nat.mul_one] at hr2
     refine ⟨.sl (.own H.length 0) l.length 1 false,H ++ [some (.row (aS l))],?_,aB.refl.app,?_⟩
     · simp only [dH,srcOf,he,nA,if_true,List.length_map,Nat.mul_one,hr2,Option.map_some,Option.bind_some]
       rw [if_neg hlen,if_pos ⟨hsz,ho⟩]
       rfl
     · have := eP (w0 := w0) (H := H ++ [some (Blk.row (aS l))]) (full := false) (io := H.length) (rows := l.map fun z => [AV.int .i64 z]) (es := 1) (by rw [← dL]; simp) (fun c hc => by obtain ⟨z,_,rfl⟩ := List.mem_map.1 hc; rfl)
       rw [List.length_map] at this
       exact ⟨⟨this,fun e => absurd e hl0⟩,fun _ => ⟨H.length,Nat.le_refl _,by simp,rfl,by simp⟩,fun e => absurd e hl0⟩
structure MvI (w0 : World) (G : Heap) (c : Nat) (nv : StV) (a b e : Nat) (H : Heap) (n : aD) : Prop where
 sub : aB G H
 hc : H[c]? = some (some (.row (stC nv)))
 p : iG w0 H G.length a nv.pl n.planes
 l : iG w0 H G.length b nv.le n.legs
 e : iG w0 H G.length e nv.pe n.people
structure MvX (N c a b e : Nat) : Prop where
 c0 : N ≤ c
 a0 : N ≤ a
 b0 : N ≤ b
 e0 : N ≤ e
 ac : a ≠ c
 bc : b ≠ c
 ec : e ≠ c
 ab : a ≠ b
 ae : a ≠ e
 be : b ≠ e
section
variable {G H : Heap} {c a b e : Nat} {nv : StV} {n : aD}
theorem MvI.putP (m : MvI w0 G c nv a b e H n) (x : MvX G.length c a b e) {j : Nat} (hj : j < n.planes.length) (t : Int) : MvI w0 G c nv a b e (H.set a (some (.row (aS (n.planes.set j t))))) ⟨n.planes.set j t,n.legs,n.people⟩ := by
 obtain ⟨_,_,_,h4⟩ := m.p.b (fun e => by rw [e] at hj; simp at hj)
 exact ⟨m.sub.setR x.a0,by rw [qB x.ac]; exact m.hc,m.p.put hj t,m.l.set h4 (by simp [aS]) (fun _ => x.ab.symm),m.e.set h4 (by simp [aS]) (fun _ => x.ae.symm)⟩
theorem MvI.putL (m : MvI w0 G c nv a b e H n) (x : MvX G.length c a b e) {j : Nat} (hj : j < n.legs.length) (t : Int) : MvI w0 G c nv a b e (H.set b (some (.row (aS (n.legs.set j t))))) ⟨n.planes,n.legs.set j t,n.people⟩ := by
 obtain ⟨_,_,_,h4⟩ := m.l.b (fun e => by rw [e] at hj; simp at hj)
 exact ⟨m.sub.setR x.b0,by rw [qB x.bc]; exact m.hc,m.p.set h4 (by simp [aS]) (fun _ => x.ab),m.l.put hj t,m.e.set h4 (by simp [aS]) (fun _ => x.be.symm)⟩
theorem MvI.putE (m : MvI w0 G c nv a b e H n) (x : MvX G.length c a b e) {j : Nat} (hj : j < n.people.length) (t : Int) : MvI w0 G c nv a b e (H.set e (some (.row (aS (n.people.set j t))))) ⟨n.planes,n.legs,n.people.set j t⟩ := by
 obtain ⟨_,_,_,h4⟩ := m.e.b (fun e => by rw [e] at hj; simp at hj)
 exact ⟨m.sub.setR x.e0,by rw [qB x.ec]; exact m.hc,m.p.set h4 (by simp [aS]) (fun _ => x.ae),m.l.set h4 (by simp [aS]) (fun _ => x.be),m.e.put hj t⟩
end
theorem iZ.id {H : Heap} {N : Nat} {y : AV} {l : List Int} (a : iZ w0 H N y l) (M k : Nat) (hM : H.length ≤ M) (hk : N ≤ M + k) : ∃ id,N ≤ id ∧ (id < H.length ∨ id = M + k) ∧ iG w0 H N id y l := by
 obtain ⟨id,i1,i2⟩ := a.i
 by_cases hl : l = []
 · exact ⟨M + k,hk,.inr rfl,i2.o,fun e => absurd hl e,i2.z⟩
 · exact ⟨id,i1 hl,.inl (i2.b hl).2.1,i2⟩
def RFlyK (w0 : World) (h : Heap) (d : aO) (s : aD) (sv : StV) (op : Int) (u : List aC) (y : AV) (h' : Heap) : Prop :=
 aB h h' ∧ ∃ nv,y = .tup [.agg (stC nv),.int .i64 (gN d s op u).2.1,.int .i64 (gN d s op u).2.2] ∧ StS w0 h' (gN d s op u).1 nv ∧ ((nv = sv ∧ (gN d s op u).1 = s) ∨ aAe w0 h' h.length (gN d s op u).1 nv)
theorem aIE {d : aO} {s : aD} {op : Int} {u : List aC} {j : Nat} (hj : j < u.length) : rL d s op u (u.drop j) j = if mR d s op u j ≠ 1 then some (mR d s op u j,(j : Int)) else rL d s op u (u.drop (j + 1)) (j + 1) := by
 rw [List.drop_eq_getElem_cons hj,rL]
theorem aFV {u : List aC} {n : aD} {j : Nat} (hj : j < u.length) : mvL (u.drop j) j n = mvL (u.drop (j + 1)) (j + 1) (if u[j].to < 0 then n else iT n j u[j]) := by
 rw [List.drop_eq_getElem_cons hj,mvL]
theorem aFG (d : aO) (v : bO) (s : aD) (sv : StV) (op : Int) (u : List aC) (uv : AV) (hR : gJ w0 h d v) (hs : StS w0 h s sv) (hU : UnV w0 h uv u) (dg : dC d) (sk : jN d s) (uk : kI d u) (o1 : 0 ≤ op) (o2 : op < 2 ^ 50) :
 ACall Try.prog w0 56 [.agg (aX v),.agg (stC sv),.int .i64 op,uv] h (RFlyK w0 h d s sv op u) := by
 refine aY aM aJa mf56_b mf56_g (qE rfl) fun hb ha => aU ?_
 obtain ⟨y1,y2,y3,y4,y5⟩ := hR.ones
 obtain ⟨l1,l2,l3,l4,l5⟩ := hR.lens
 obtain ⟨q1,q2,q3⟩ := hs.ones
 have lu := NS.len hU
 have ul := uk.len
 have dp := dg.pn
 have dl := dg.pe
 obtain ⟨G,eG⟩ : ∃ G,G = h ++ [some (Blk.row [v.pl,v.ln,v.pn,v.pe,v.we]),some (Blk.row [sv.pl,sv.le,sv.pe]),some (Blk.row [.nilS,.nilS,.nilS])] := ⟨_,rfl⟩
 have sG : aB h G := eG ▸ aB.refl.app
 have gl : G.length = h.length + 3 := by rw [eG]; simp
 have g0 : G[h.length]? = some (some (.row [v.pl,v.ln,v.pn,v.pe,v.we])) := by rw [eG]; simp
 have g1 : G[h.length + 1]? = some (some (.row [sv.pl,sv.le,sv.pe])) := by rw [eG]; simp
 have g2 : G[h.length + 2]? = some (some (.row [.nilS,.nilS,.nilS])) := by rw [eG]; simp
 have b0 := xL g0
 have b1 := xL g1
 have b2 := xL g2
 have hRG := hR.sub sG
 have hsG := hs.sub sG
 have hUG := hU.sub sG
 simp only [go_sem,mf56,aX,stC,y1,y2,y3,y4,y5,q1,q2,q3]
 rw [← eG]
 refine cU (S := Unit) (fun j _ => [(2,.int .i64 op),(3,uv),(4,.ptr (.own h.length 0)),(5,.ptr (.own (h.length + 1) 0)),(8,.ptr (.own (h.length + 2) 0)),(11,.int .i64 j)]) (fun _ _ => G) (fun j _ => rL d s op u u 0 = rL d s op u (u.drop j) j) u.length () rfl rfl rfl (fun j _ hj hall ih => ?_) (fun _ hall => ?_)
 · refine aE aM aDL [2,3,4,5,8,11] L56_0.eq_1 ?_
   have i3 : (j : Int) < u.length := by omega
   rw [aIE hj] at hall
   simp only [go_sem,g0,g1,b0,b1,y1,y2,y3,y4,y5,q1,q2,q3,lu,i3]
   refine aF (aEn op u uv j hj hRG hsG hUG dg sk uk o1 o2).v ?_
   obtain ⟨r,er⟩ : ∃ r,r = mR d s op u j := ⟨_,rfl⟩
   rw [← er] at hall ⊢
   have z1 : (G.set (h.length + 2) (some (Blk.row [sv.pl,sv.le,sv.pe])))[h.length + 2]? = some (some (Blk.row [sv.pl,sv.le,sv.pe])) := qF (by omega)
   simp only [go_sem,g0,g1,g2,b0,b1,b2,q1,q2,q3,z1]
   refine ⟨fun e => ?_,fun e => ⟨(by unfold I64; omega),ih () (by rw [hall,if_neg (by simpa using e)])⟩⟩
   rw [if_pos e] at hall
   refine ⟨(sG.setR (by omega)),sv,?_⟩
   rw [gN,hall]
   exact ⟨rfl,hs.sub (sG.setR (by omega)),.inl ⟨rfl,rfl⟩⟩
 refine aE aM aDL [2,3,4,5,8,11] L56_0.eq_1 ?_
 have i3 : ¬ (u.length : Int) < u.length := by omega
 rw [List.drop_length,rL] at hall
 have hF : gN d s op u = if (List.range d.places.length).any (eJ d (mvL u 0 s)) then (s,7,-1) else (mvL u 0 s,1,-1) := by rw [gN,hall]
 simp only [go_sem,lu,i3]
 refine yJ aM D56_0.eq_1 (by kernel_rfl) ?_
 obtain ⟨w1,H1,ap1,s1,ow1⟩ := qQ hsG.planes (by have := sk.s1; omega)
 simp only [go_sem,g1,b1,ap1]
 have g1a := s1.2 _ _ g1
 obtain ⟨w2,H2,ap2,s2,ow2⟩ := qQ (hsG.legs.sub s1) (by have := sk.s2; omega)
 simp only [go_sem,g1a,ap2]
 have g1b := s2.2 _ _ g1a
 obtain ⟨w3,H3,ap3,s3,ow3⟩ := qQ (hsG.people.sub (s1.trans s2)) (by have := sk.s3; omega)
 have n1 := s1.1
 have n2 := s2.1
 have n3 := s3.1
 have c1 := ow1.o.s.one
 have c2 := ow2.o.s.one
 have c3 := ow3.o.s.one
 simp only [go_sem,g1b,ap3,c1.1,c1.2,c2.1,c2.2,c3.1,c3.2]
 obtain ⟨H,eH⟩ : ∃ H,H = H3 ++ [some (Blk.row [w1,w2,w3])] := ⟨_,rfl⟩
 rw [← eH]
 have s4 : aB H3 H := eH ▸ aB.refl.app
 have sGH : aB G H := s1.trans (s2.trans (s3.trans s4))
 have hl : H.length = H3.length + 1 := by rw [eH]; simp
 obtain ⟨ia,ja,ka,a1⟩ := ow1.id H3.length 1 (by omega) (by omega)
 obtain ⟨ib,jb,kb,a2⟩ := ow2.id H3.length 2 (by omega) (by omega)
 obtain ⟨ie,je,ke,a3⟩ := ow3.id H3.length 3 (by omega) (by omega)
 have X : MvX G.length H3.length ia ib ie := ⟨by omega,by omega,by omega,by omega,by omega,by omega,by omega,by omega,by omega,by omega⟩
 have M0 : MvI w0 G H3.length ⟨w1,w2,w3⟩ ia ib ie H s := ⟨sGH,by rw [eH]; simp [stC],a1.sub (s2.trans (s3.trans s4)),(a2.less n1).sub (s3.trans s4),(a3.less (by omega)).sub s4⟩
 refine cU (S := Heap × aD) (fun j _ => [(3,uv),(4,.ptr (.own h.length 0)),(5,.ptr (.own (h.length + 1) 0)),(8,.ptr (.own (h.length + 2) 0)),(13,.ptr (.own H3.length 0)),(14,.int .i64 j)]) (fun _ st => st.1)
  (fun j st => MvI w0 G H3.length ⟨w1,w2,w3⟩ ia ib ie st.1 st.2 ∧ mvL u 0 s = mvL (u.drop j) j st.2 ∧ (st.2.planes.length = s.planes.length ∧ st.2.legs.length = s.legs.length ∧ st.2.people.length = s.people.length) ∧ ∀ x ∈ st.2.legs,0 ≤ x ∧ x < 1000000 + j) u.length (H,s) ⟨M0,rfl,⟨rfl,rfl,rfl⟩,fun x hx => by have := sk.lg x hx; omega⟩ rfl rfl (fun j st hj I ih => ?_) (fun st I => ?_)
 · refine aE aM aDJ [3,4,5,8,13,14] L56_2.eq_1 ?_
   obtain ⟨K,n⟩ := st
   obtain ⟨M,hm,⟨e1,e2,e3⟩,lb⟩ := I
   simp only at M hm e1 e2 e3 lb ih ⊢
   have i4 : (j : Int) < u.length := by omega
   obtain ⟨fp,pv,f1,f2,f3,f4,f5⟩ := (hUG.sub M.sub).at_ hj
   have f3' := f3 []
   have f4' := f4 []
   rw [List.append_nil] at f3' f4'
   rw [aFV hj] at hm
   simp only [go_sem,lu,i4,f1,f3,f3']
   refine ⟨fun t0 => ⟨(by unfold I64; omega),?_⟩,fun t0 => ?_⟩
   · rw [if_pos t0] at hm
     have := ih (K,n) ⟨M,hm,⟨e1,e2,e3⟩,fun x hx => by have := lb x hx; omega⟩
     simpa using this
   rw [if_neg t0] at hm
   have hjp : j < n.planes.length := by have := sk.s1; omega
   have hjl : j < n.legs.length := by have := sk.s2; omega
   obtain ⟨z1,z2,z3,z4⟩ := M.p.use hjp
   obtain ⟨x1,x2,x3,x4⟩ := M.l.use hjl
   have z2' := z2 []
   have z3' := z3 []
   have x2' := x2 []
   have x3' := x3 []
   rw [List.append_nil] at z2' z3' x2' x3'
   have mc := M.hc
   have mcL := xL mc
   simp only [stC] at mc
   have hlb := lb _ (qG hjl)
   refine jT aM [0,1,2,3,4,5,6,7,8,9,10,11,12,13,14,15,16,17,18,19,20] [o_ 55 (.addr (.t 13) 0),o_ 56 (l_ 55),o_ 57 (m_ 14),o_ 58 (.addr (.t 13) 1),o_ 59 (l_ 58),o_ 60 (m_ 14),o_ 61 (m_ 3),o_ 62 (m_ 14),o_ 63 (.idxs 2 (.t 61) (.t 62)),o_ 64 (.addr (.t 63) 0),o_ 65 (l_ 64),o_ 66 (.addr (.t 13) 1),o_ 67 (l_ 66),o_ 68 (m_ 14),o_ 69 (.idxs 1 (.t 67) (.t 68)),o_ 70 (l_ 69),o_ 71 (.bin .add (.t 70) (i_ 1)),o_ 72 (.idxs 1 (.t 56) (.t 57)),.op none none (.store (.t 72) (.t 65) 1)] [([(4,o_ 59 (l_ 58))],[o_ 73 (.idxs 1 (.t 59) (.t 60)),.op none none (.store (.t 73) (.t 71) 1)])] rfl rfl (by kernel_rfl) ?_
   simp only [go_sem,mc,mcL,f1,f3,f3',z1,z2,z2',z3,z3',x1,x2,x2',x3,x3']
   have il1 : (aS n.planes).length = n.planes.length := by simp [aS]
   have il2 : (aS n.legs).length = n.legs.length := by simp [aS]
   rw [fZ hjp]
   have M1 := M.putP X hjp u[j].to
   have M2 := M1.putL X (j := j) hjl (n.legs[j] + 1)
   obtain ⟨K1,eK1⟩ : ∃ K1,K1 = K.set ia (some (.row (aS (n.planes.set j u[j].to)))) := ⟨_,rfl⟩
   rw [← eK1] at M1 M2 ⊢
   have mc1 := M1.hc
   simp only [stC] at mc1
   obtain ⟨x5,x6,_,_⟩ := M1.l.use (j := j) hjl
   simp only at x5 x6
   have x6' := x6 []
   rw [List.append_nil] at x6'
   refine ⟨⟨by omega,by omega⟩,by omega,?_⟩
   simp only [go_sem,mc1,x6,x6',il2]
   rw [fZ hjl]
   obtain ⟨K2,eK2⟩ : ∃ K2,K2 = K1.set ib (some (.row (aS (n.legs.set j (n.legs[j] + 1))))) := ⟨_,rfl⟩
   rw [← eK2] at M2 ⊢
   refine ⟨by omega,?_⟩
   have hmem := qG hj
   have hplq := (uk.ok dg.pe).pl _ hmem
   refine cU (S := Heap × List Int) (fun q _ => [(3,uv),(4,.ptr (.own h.length 0)),(5,.ptr (.own (h.length + 1) 0)),(8,.ptr (.own (h.length + 2) 0)),(13,.ptr (.own H3.length 0)),(14,.int .i64 j),(15,.int .i64 q)]) (fun _ st => st.1)
    (fun q st => MvI w0 G H3.length ⟨w1,w2,w3⟩ ia ib ie st.1 ⟨n.planes.set j u[j].to,n.legs.set j (n.legs[j] + 1),st.2⟩ ∧ st.2.length = s.people.length ∧ st.2 = (u[j].people.take q).foldl (fun l n => l.set n.toNat u[j].to) n.people) u[j].people.length (K2,n.people) ⟨M2,e3,rfl⟩ rfl rfl (fun q st hq Iq iq => ?_) (fun st Iq => ?_)
   · refine aE aM aDK [3,4,5,8,13,14,15] L56_1.eq_1 ?_
     obtain ⟨K5,pe⟩ := st
     obtain ⟨F5,lpe,epe⟩ := Iq
     simp only at F5 lpe epe iq ⊢
     obtain ⟨fp,pv,f1,f2,f3,f4,f5⟩ := (hUG.sub F5.sub).at_ hj
     have f3' := f3 []
     have f4' := f4 []
     rw [List.append_nil] at f3' f4'
     have lpv := (SlI.use f5).1
     have e4 : (q : Int) < u[j].people.length := by omega
     obtain ⟨t,t1,t2,t3⟩ := SlI.at_ f5 hq
     have hx := (uk.pp _ hmem).1 _ (qG hq)
     obtain ⟨x,ex'⟩ : ∃ x : Nat,u[j].people[q] = x := ⟨u[j].people[q].toNat,by omega⟩
     have hxl : x < pe.length := by have := sk.s3; omega
     obtain ⟨v1,v2,v3,v4⟩ := F5.e.use (j := x) hxl
     simp only at v1 v2 v3
     have v2' := v2 []
     rw [List.append_nil] at v2'
     have an : u[j].people[q].toNat = x := by omega
     have hx0 := hx.1
     have il3 : (aS pe).length = pe.length := by simp [aS]
     have mc5 := F5.hc
     simp only [stC] at mc5
     simp only [go_sem,f1,f3,f3',f4,f4',lpv,e4,t1,t2,t3,an,hx0,mc5,v1,v2,v2',il3]
     rw [fZ hxl]
     have F6 := F5.putE (j := x) X hxl u[j].to
     simp only at F6
     refine ⟨by omega,(by unfold I64; omega),?_⟩
     have := iq (K5.set ie (some (.row (aS (pe.set x u[j].to)))),pe.set x u[j].to) ⟨F6,by simp only [List.length_set]; exact lpe,by
      simp only
      rw [List.take_add_one,qA hq,List.foldl_append,← epe]
      simp [ex']⟩
     simpa using this
   · refine aE aM aDK [3,4,5,8,13,14,15] L56_1.eq_1 ?_
     obtain ⟨K5,pe⟩ := st
     obtain ⟨F5,lpe,epe⟩ := Iq
     simp only at F5 lpe epe ⊢
     obtain ⟨fp,pv,f1,f2,f3,f4,f5⟩ := (hUG.sub F5.sub).at_ hj
     have f4' := f4 []
     rw [List.append_nil] at f4'
     have lpv := (SlI.use f5).1
     have e4 : ¬ (u[j].people.length : Int) < u[j].people.length := by omega
     simp only [go_sem,f1,f4,f4',lpv,e4]
     rw [List.take_length] at epe
     have emv : iT n j u[j] = ⟨n.planes.set j u[j].to,n.legs.set j (n.legs[j] + 1),pe⟩ := by rw [iT,aI hjl,← epe]
     refine ⟨(by unfold I64; omega),?_⟩
     have := ih (K5,iT n j u[j]) ⟨by rw [emv]; exact F5,hm,?_,fun x hx => ?_⟩
     · simpa using this
     · have := aEr n j u[j]
       exact ⟨this.1.trans e1,this.2.1.trans e2,this.2.2.trans e3⟩
     · rw [emv] at hx
       rcases List.mem_or_eq_of_mem_set hx with hx | hx
       · have := lb x hx; omega
       · omega
 refine aE aM aDJ [3,4,5,8,13,14] L56_2.eq_1 ?_
 obtain ⟨K,n⟩ := st
 obtain ⟨M,hm,⟨e1,e2,e3⟩,lb⟩ := I
 simp only at M hm e1 e2 e3 lb ⊢
 have i4 : ¬ (u.length : Int) < u.length := by omega
 rw [List.drop_length,mvL] at hm
 have mc := M.hc
 simp only [stC] at mc
 have k0 := M.sub.2 _ _ g0
 have k1 := M.sub.2 _ _ g1
 have k2 := M.sub.2 _ _ g2
 simp only [go_sem,lu,i4,k0,mc,y1,y2,y3,y4,y5]
 refine aF (yK d v n w1 (hRG.sub M.sub).toDayS M.p.o.s hR.l1 (by have := sk.s1; omega)).v ?_
 rw [hm] at hF
 cases e5 : (List.range d.places.length).any (eJ d n) with
 | true =>
  have z1 : (K.set (h.length + 2) (some (Blk.row [sv.pl,sv.le,sv.pe])))[h.length + 2]? = some (some (Blk.row [sv.pl,sv.le,sv.pe])) := qF (aN k2)
  simp only [go_sem,k1,k2,q1,q2,q3,z1]
  refine ⟨(sG.trans M.sub).setR (by omega),sv,?_⟩
  rw [hF,e5,if_pos rfl]
  exact ⟨rfl,hs.sub ((sG.trans M.sub).setR (by omega)),.inl ⟨rfl,rfl⟩⟩
 | false =>
  have z1 : (K.set (h.length + 2) (some (Blk.row [w1,w2,w3])))[h.length + 2]? = some (some (Blk.row [w1,w2,w3])) := qF (aN k2)
  simp only [go_sem,mc,k2,c1.1,c1.2,c2.1,c2.2,c3.1,c3.2,z1]
  have x1 := X.a0
  have x2 := X.b0
  have x3 := X.e0
  refine ⟨(sG.trans M.sub).setR (by omega),⟨w1,w2,w3⟩,?_⟩
  rw [hF,e5,if_neg (by simp)]
  have p1 := M.p.set (c' := [w1,w2,w3]) k2 rfl fun _ => by omega
  have p2 := M.l.set (c' := [w1,w2,w3]) k2 rfl fun _ => by omega
  have p3 := M.e.set (c' := [w1,w2,w3]) k2 rfl fun _ => by omega
  exact ⟨rfl,⟨p1.o,p2.o,p3.o⟩,.inr ⟨p1.toL (by omega),p2.toL (by omega),p3.toL (by omega)⟩⟩
end Go.Proofs.Ab
namespace Go.Proofs.Ab
open Go Go.Proofs
variable {w : World} {h : Heap} {cs : List Value}
end Go.Proofs.Ab
namespace Go.Proofs.Ab
open Go Go.Proofs
variable {w0 : World} {h : Heap}
attribute [local irreducible] ACall bY dD bA bX rvC lp rg dr ex un rv
theorem StS.nil {H : Heap} : StS w0 H ⟨[],[],[]⟩ ⟨.nilS,.nilS,.nilS⟩ := ⟨⟨.inl ⟨rfl,rfl⟩,fun _ => rfl⟩,⟨.inl ⟨rfl,rfl⟩,fun _ => rfl⟩,⟨.inl ⟨rfl,rfl⟩,fun _ => rfl⟩⟩
section
variable {d : aO} {v : bO} {pol : fO} {pv : AV}
theorem wW.row (a : wW w0 h pv pol) {j : Nat} (hj : j < pol.length) : ∃ (p : Pl) (x : AV),bT 1 pv (some j) = some (.ptr p) ∧ (∀ L,rd w0 (h ++ L) p = some x) ∧ rd w0 h p = some x ∧ NS w0 h 1 (nJ w0 h) x pol[j] := by
 obtain ⟨p,c,i,r,x,rfl,s⟩ := NS.at_ a hj
 have t : ∀ L,rd w0 (h ++ L) p = some x := fun L => vK (r L) rfl
 have t' := t []
 rw [List.append_nil] at t'
 exact ⟨p,x,i,t,t',s⟩
theorem aFg {x : AV} {l : List (List aC)} (a : NS w0 h 1 (nJ w0 h) x l) {j : Nat} (hj : j < l.length) : ∃ (p : Pl) (y : AV),bT 1 x (some j) = some (.ptr p) ∧ (∀ L,rd w0 (h ++ L) p = some y) ∧ rd w0 h p = some y ∧ UnV w0 h y l[j] := by
 obtain ⟨p,c,i,r,y,rfl,s⟩ := NS.at_ a hj
 have t : ∀ L,rd w0 (h ++ L) p = some y := fun L => vK (r L) rfl
 have t' := t []
 rw [List.append_nil] at t'
 exact ⟨p,y,i,t,t',s⟩
def polB (d : aO) (pol : fO) : Bool := pol.all (fun r => decide (r.length = aJ d) && r.all (tO d)) && decide (pol.length = d.weathers.length)
end
end Go.Proofs.Ab

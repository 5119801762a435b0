/- The own layer under the proofs of this seat, part O: what calls of the program come to on an abstract heap. No condition. -/
import Derived.Test.YtiaaonmbgkealaaM
set_option linter.unusedSimpArgs false
set_option linter.unusedVariables false
namespace Go.Proofs.Ab
open Go Go.Proofs
variable {w0 : World} {h : Heap}
attribute [local irreducible] ACall aS aW aM aP rvC rdC lp rg dr ex un rv rd'
section
variable {s : aC} {v : StV}
theorem StS.lens (a : StS w0 h s v) : eL v.pl = some (.int .i64 s.planes.length) ∧ eL v.le = some (.int .i64 s.legs.length) ∧ eL v.pe = some (.int .i64 s.people.length) := ⟨(SlI.use a.planes.s).1,(SlI.use a.legs.s).1,(SlI.use a.people.s).1⟩
theorem StS.ones (a : StS w0 h s v) : one v.pl = true ∧ one v.le = true ∧ one v.pe = true := ⟨a.planes.s.one.1,a.legs.s.one.1,a.people.s.one.1⟩
theorem SlI.at_ {x : AV} {l : List Int} (a : SlI w0 h x l) {j : Nat} (hj : j < l.length) : ∃ p : Pl,bZ 1 x (some j) = some (.ptr p) ∧ (∀ L,rd w0 (h ++ L) p = some (.int .i64 l[j])) ∧ rd w0 h p = some (.int .i64 l[j]) := by
 obtain ⟨_,q,qi,qr⟩ := SlI.use a
 have := qr j hj []
 rw [List.append_nil] at this
 exact ⟨_,qi j hj,qr j hj,this⟩
end
theorem UnV.at_ {u : List aH} {v : AV} (a : UnV w0 h v u) {j : Nat} (hj : j < u.length) : ∃ (p : Pl) (pv : AV),bZ 2 v (some j) = some (.ptr p) ∧ (∀ L,rdn w0 (h ++ L) p 2 = some [.int .i64 u[j].to,pv]) ∧ (∀ L,rd w0 (h ++ L) (p.add 0) = some (.int .i64 u[j].to)) ∧ (∀ L,rd w0 (h ++ L) (p.add 1) = some pv) ∧ SlI w0 h pv u[j].people := by
 obtain ⟨p,c,p1,p2,pv,rfl,p3⟩ := NS.at_ a hj
 exact ⟨p,pv,p1,p2,fun L => cO (p2 L) rfl,fun L => cO (p2 L) rfl,p3⟩
def fU (d : aQ) (s : aC) : Bool := decide (s.planes.length = d.planes.length) && (decide (s.legs.length = d.planes.length) && (decide (s.people.length = d.people.length) && (s.planes.all (bY d.places.length) && (s.people.all (bY d.places.length) && s.legs.all fun x => inB x 0 5))))
end Go.Proofs.Ab
namespace Go.Proofs.Ab
open Go Go.Proofs
variable {w0 : World} {h : Heap}
attribute [local irreducible] ACall aS aW aM aP rvC rdC lp rg dr ex un rv rd'
theorem aCh.ok {d : aQ} {u : List aH} (a : aCh d u) (h4 : d.people.length ≤ 4) : aBp d u := by
 refine ⟨a.len,fun x hx => (a.to x hx).2,fun x hx => (a.pp x hx).1,fun x hx => ?_⟩
 obtain ⟨h1,h2⟩ := a.pp x hx
 have key : ∀ (l : List Int) (b : Int),l.Pairwise (· < ·) → (∀ n ∈ l,b ≤ n ∧ n < 4) → (l.length : Int) ≤ 4 - b ∨ l = [] := by
  intro l
  induction l with
  | nil => intro b _ _; exact .inr rfl
  | cons a l ih =>
   intro b hp hb
   obtain ⟨p1,p2⟩ := List.pairwise_cons.1 hp
   have hab := hb a (by simp)
   rcases ih (a + 1) p2 (fun n hn => ⟨by have := p1 n hn; omega,(hb n (by simp [hn])).2⟩) with h | h
   · left; simp; omega
   · subst h; left; simp; omega
 rcases key x.people 0 h2 (fun n hn => by have := h1 n hn; omega) with h | h
 · omega
 · rw [h]; simp
end Go.Proofs.Ab
namespace Go.Proofs.Ab
open Go Go.Proofs
variable {w0 : World} {h : Heap}
attribute [local irreducible] ACall aS aW aM aP rvC rdC lp rg dr ex un rv rd'
theorem aF6 (l : List Int) (v fv : AV) (p : Nat → Bool) (hv : SlI w0 h v l) (hn : l.length < 1000000) (hf : ∀ (j : Nat) (hj : j < l.length) L,aP Try.prog w0 fv [.int .i64 j,.int .i64 l[j]] (h ++ L) (.bool (p j)) (h ++ L)) :
 aM Try.prog w0 69 [v,fv] h (.bool ((List.range l.length).all p)) h := by
 have := xN (l.map fun z => [AV.int .i64 z]) v fv p hv (by intro r hr; obtain ⟨z,_,rfl⟩ := List.mem_map.1 hr; rfl) (by simpa using hn) fun j x hx _ L => by
  have hj : j < l.length := by have := aG hx; simpa using this
  have : x = .int .i64 l[j] := by simpa [hj] using hx.symm
  subst this
  exact hf j hj L
 rwa [List.length_map] at this
section
variable {d : aQ} {v : cD} {m : AV} {i ib : Nat}
theorem aAZ (j x : Int) (hd : h[i]? = some (some (.row (aX v ++ [m])))) (hR : jA w0 h d v) (hi : h[ib]? = some (some (.row [.ptr (.own i 0)]))) : aM Try.prog w0 130 [.int .i64 j,.int .i64 x,.ptr (.own ib 0)] h (.bool (bY d.places.length x)) h := by
 refine aJ aL aEP aH9 aH8 (Nat.le_of_ble_eq_true rfl) (by simp [AV.bdd,AV.bdds]) fun hb ha => aV ?_
 have l1 := hR.lens.1
 have n1 := hR.l1
 have bi : ∀ L,(h ++ L)[ib]? = some (some (.row [.ptr (.own i 0)])) := fun L => aA hi
 have bd : ∀ L,(h ++ L)[i]? = some (some (.row (aX v ++ [m]))) := fun L => aA hd
 simp only [aX,List.cons_append,List.nil_append] at bd
 simp only [go_sem,mf130,bi,bd,l1]
 refine ⟨(by unfold I64; omega),?_⟩
 refine aF (jX _ _ _).v ?_
 simp only [go_sem]
 rfl
theorem aFn (j x : Int) : aM Try.prog w0 131 [.int .i64 j,.int .i64 x] h (.bool (inB x 0 5)) h := by
 refine aJ aL aEO aH7 aH6 (Nat.le_of_ble_eq_true rfl) (by simp [AV.bdd,AV.bdds]) fun hb ha => aV ?_
 simp only [go_sem,mf131]
 refine aF (jX _ _ _).v ?_
 simp only [go_sem]
theorem aDZ (s : aC) (sv : StV) (hd : h[i]? = some (some (.row (aX v ++ [m])))) (hR : jA w0 h d v) (hS : StS w0 h s sv) (m1 : s.planes.length < 1000000) (m2 : s.legs.length < 1000000) (m3 : s.people.length < 1000000) : aM Try.prog w0 90 [.ptr (.own i 0),.agg (stC sv)] h (.bool (fU d s)) h := by
 refine aJ aL aG8 mf90_b mf90_g (Nat.le_of_ble_eq_true rfl) (by simp [AV.bdd,AV.bdds]) fun hb ha => aV ?_
 obtain ⟨l1,l2,l3,l4,l5⟩ := hR.lens
 obtain ⟨k1,k2,k3⟩ := hS.lens
 obtain ⟨q1,q2,q3⟩ := hS.ones
 have hil := aG hd
 have bd : ∀ L,(h ++ L)[i]? = some (some (.row (aX v ++ [m]))) := fun L => aA hd
 have e1 : ∀ a b : Nat,((a : Int) == b) = decide (a = b) := fun a b => by rw [Bool.eq_iff_iff]; simp; omega
 simp only [aX,List.cons_append,List.nil_append] at bd
 simp only [go_sem,mf90,stC,q1,q2,q3,bd,k1,k2,k3,l3,l4,e1]
 refine ⟨fun e2 => ⟨fun e3 => ⟨fun e4 => ?_,fun e4 => by simp [fU,e4]⟩,fun e3 => by simp [fU,e3]⟩,fun e2 => by simp [fU,e2]⟩
 obtain ⟨G,eG⟩ : ∃ G,G = h ++ [some (Blk.row [AV.ptr (Pl.own i 0)]),some (Blk.row [sv.pl,sv.le,sv.pe])] := ⟨_,rfl⟩
 have sG : aB h G := eG ▸ aB.refl.app
 have gi : G[h.length]? = some (some (.row [.ptr (.own i 0)])) := by rw [eG]; simp
 have gs : G[h.length + 1]? = some (some (.row [sv.pl,sv.le,sv.pe])) := by rw [eG]; simp
 have gsL : ∀ L,(G ++ L)[h.length + 1]? = some (some (.row [sv.pl,sv.le,sv.pe])) := fun L => aA gs
 rw [← eG]
 have hpl : ∀ L (l : List Int) (x : AV),SlI w0 h x l → l.length < 1000000 → aM Try.prog w0 69 [x,AV.fn (Fn.func 130) [] [AV.ptr (Pl.own h.length 0)]] (G ++ L) (.bool (l.all (bY d.places.length))) (G ++ L) := fun L l x hx hl => by
  rw [← cP (x := 0)]
  refine aF6 l x _ _ (Sl.sub hx (sG.trans aB.refl.app)) hl fun j hj L2 => ?_
  rw [aK hj]
  exact (aAZ (i := i) (v := v) (m := m) j l[j] ((sG.app.app).2 _ _ hd) (hR.sub (sG.app.app)) (by rw [List.append_assoc]; exact aA gi)).vc (first := []) (capt := [_])
 have hpl0 := fun l x => hpl [] l x
 simp only [List.append_nil] at hpl0
 refine fQ (hpl0 s.planes sv.pl hS.planes.s m1).v ?_
 cases f1 : s.planes.all (bY d.places.length) with
 | false => simp only [go_sem]; exact ⟨by simp [fU,f1],_,eG⟩
 | true =>
 simp only [go_sem,gs,gsL]
 refine fQ (hpl0 s.people sv.pe hS.people.s m3).v ?_
 cases f2 : s.people.all (bY d.places.length) with
 | false => simp only [go_sem]; exact ⟨by simp [fU,f2],_,eG⟩
 | true =>
 simp only [go_sem,gs,gsL]
 have leg : aM Try.prog w0 69 [sv.le,AV.fn (Fn.func 131) [] []] G (.bool (s.legs.all fun x => inB x 0 5)) G := by
  rw [← cP (x := 0)]
  refine aF6 s.legs sv.le _ _ (Sl.sub hS.legs.s sG) m2 fun j hj L2 => ?_
  rw [aK hj]
  exact (aFn j s.legs[j]).vc (first := []) (capt := [])
 refine fQ leg.v ?_
 simp only [go_sem]
 exact ⟨by simp [fU,e2,e3,e4,f1,f2],_,eG⟩
end
section
variable {d : aQ} {v : cD} {m : AV} {i ib ix : Nat}
end
end Go.Proofs.Ab
namespace Go.Proofs.Ab
open Go Go.Proofs
variable {w0 : World} {h : Heap}
attribute [local irreducible] ACall aS aW aM aP rvC rdC lp rg dr ex un rv rd'
theorem aCT {d : aQ} {s : aC} (e : fU d s = true) : kP d s ∧ ∀ x ∈ s.people,0 ≤ x ∧ x < d.places.length := by
 simp only [fU,Bool.and_eq_true,decide_eq_true_eq,List.all_eq_true] at e
 obtain ⟨e1,e2,e3,e4,e5,e6⟩ := e
 refine ⟨⟨e1,e2,e3,fun x hx => fW.1 (e4 x hx),fun x hx => ?_⟩,fun x hx => fW.1 (e5 x hx)⟩
 have := e6 x hx
 simp only [inB,Bool.and_eq_true,decide_eq_true_eq] at this
 omega
theorem aCa {d : aQ} {v : cD} {m : AV} {i : Nat} (e : dN d = true) (hd : h[i]? = some (some (.row (aX v ++ [m])))) (hR : jA w0 h d v) : nR w0 h d v m i := by
 have dg := jR e
 exact ⟨hd,hR,dg.pe,dg.pn,fun p hp => by have := (dg.people p hp).2.2.1; omega⟩
theorem iF.set {H : Heap} {N k : Nat} {y : AV} {l : List Int} {c c' : List AV} (a : iF w0 H N y l) (hk : H[k]? = some (some (.row c))) (hc : c'.length = c.length) (hN : k < N) : iF w0 (H.set k (some (.row c'))) N y l := by
 obtain ⟨id,i1,a1⟩ := a.i
 exact (a1.set (c' := c') hk hc fun e => by have := i1 e; omega).toL (Nat.le_refl _)
theorem aAm.set {H : Heap} {N k : Nat} {s : aC} {sv : StV} {c c' : List AV} (a : aAm w0 H N s sv) (hk : H[k]? = some (some (.row c))) (hc : c'.length = c.length) (hN : k < N) : aAm w0 (H.set k (some (.row c'))) N s sv := ⟨a.p.set hk hc hN,a.l.set hk hc hN,a.e.set hk hc hN⟩
theorem aAm.here {H : Heap} {N : Nat} {s : aC} {sv : StV} (a : aAm w0 H N s sv) : StS w0 H s sv := ⟨a.p.o,a.l.o,a.e.o⟩
theorem Cost_c (d : aQ) (v : cD) (s : aC) (sv : StV) (hR : jA w0 h d v) (hS : StS w0 h s sv) (m1 : s.planes.length < 1000000) (m2 : s.legs.length < 1000000) (m3 : s.people.length < 1000000) :
 aM Try.prog w0 39 [.agg (aX v),.agg (stC sv)] h (.tup [.int .i64 (if (dN d && fU d s) = true then oA d s else 0),.int .i64 (if (dN d && fU d s) = true then 0 else 2)]) h := by
 refine aJ aL aHw mf39_b mf39_g (Nat.le_of_ble_eq_true rfl) (by simp [AV.bdd,AV.bdds]) fun hb ha => aV ?_
 obtain ⟨o1,o2,o3,o4,o5⟩ := hR.ones
 obtain ⟨q1,q2,q3⟩ := hS.ones
 simp only [go_sem,mf39,aX,stC,o1,o2,o3,o4,o5,q1,q2,q3]
 obtain ⟨G,eG⟩ : ∃ G,G = h ++ [some (Blk.row [v.pl,v.ln,v.pn,v.pe,v.we]),some (Blk.row [sv.pl,sv.le,sv.pe]),some (Blk.row [v.pl,v.ln,v.pn,v.pe,v.we,AV.nilM])] := ⟨_,rfl⟩
 have sG : aB h G := eG ▸ aB.refl.app
 have g1 : G[h.length + 1]? = some (some (.row [sv.pl,sv.le,sv.pe])) := by rw [eG]; simp
 have g2 : G[h.length + 2]? = some (some (.row (aX v ++ [AV.nilM]))) := by rw [eG]; simp [aX]
 have b1 : ∀ L,(G ++ L)[h.length + 1]? = some (some (.row [sv.pl,sv.le,sv.pe])) := fun L => aA g1
 rw [← eG]
 refine aF (rD d v (hR.sub sG)).v ?_
 cases e1 : dN d with
 | false => simp only [go_sem]; exact ⟨rfl,_,eG⟩
 | true =>
 simp only [go_sem,g1,b1,q1,q2,q3]
 refine aF (aDZ (m := .nilM) (i := h.length + 2) s sv g2 (hR.sub sG) (hS.sub sG) m1 m2 m3).v ?_
 cases e2 : fU d s with
 | false => simp only [go_sem]; exact ⟨rfl,_,eG⟩
 | true =>
 have dg := jR e1
 obtain ⟨sk,pat⟩ := aCT e2
 simp only [go_sem,g1,b1,q1,q2,q3]
 refine aF (aFK d v .nilM (h.length + 2) s sv (aCa e1 g2 (hR.sub sG)) (hS.sub sG) sk (uJ dg s) (qP dg s) pat).v ?_
 simp only [go_sem]
 exact ⟨rfl,_,eG⟩
end Go.Proofs.Ab
namespace Go.Proofs.Ab
open Go Go.Proofs
variable {w0 : World} {h : Heap}
attribute [local irreducible] ACall aS aW aM aP rvC rdC lp rg dr ex un rv rd'
section
variable {d : aQ} {v : cD} {s : aC} {sv : StV}
end
end Go.Proofs.Ab
namespace Go.Proofs.Ab
open Go Go.Proofs
variable {w0 : World} {h : Heap}
attribute [local irreducible] ACall aS aW aM aP rvC rdC lp rg dr ex un rv rd'
section
variable {d : aQ} {v : cD} {s : aC} {sv : StV}
end
end Go.Proofs.Ab
namespace Go.Proofs.Ab
open Go Go.Proofs
variable {w0 : World} {h : Heap}
attribute [local irreducible] ACall aS aW aM aP rvC rdC lp rg dr ex un rv rd'
structure MvI (w0 : World) (G : Heap) (c : Nat) (nv : StV) (a b e : Nat) (H : Heap) (n : aC) : Prop where
 sub : aB G H
 hc : H[c]? = some (some (.row (stC nv)))
 p : gC w0 H G.length a nv.pl n.planes
 l : gC w0 H G.length b nv.le n.legs
 e : gC w0 H G.length e nv.pe n.people
structure MvX (N c a b e : Nat) : Prop where
 c0 : N ≤ c
 a0 : N ≤ a
 b0 : N ≤ b
 e0 : N ≤ e
 ac : a ≠ c
 bc : b ≠ c
 ec : e ≠ c
 ab : a ≠ b
 ae : a ≠ e
 be : b ≠ e
section
variable {G H : Heap} {c a b e : Nat} {nv : StV} {n : aC}
theorem MvI.putP (m : MvI w0 G c nv a b e H n) (x : MvX G.length c a b e) {j : Nat} (hj : j < n.planes.length) (t : Int) : MvI w0 G c nv a b e (H.set a (some (.row (aR (n.planes.set j t))))) ⟨n.planes.set j t,n.legs,n.people⟩ := by
 obtain ⟨_,_,_,h4⟩ := m.p.b (fun e => by rw [e] at hj; simp at hj)
 exact ⟨m.sub.setR x.a0,by rw [List.getElem?_set_ne x.ac]; exact m.hc,m.p.put hj t,m.l.set h4 (by simp [aR]) (fun _ => x.ab.symm),m.e.set h4 (by simp [aR]) (fun _ => x.ae.symm)⟩
theorem MvI.putL (m : MvI w0 G c nv a b e H n) (x : MvX G.length c a b e) {j : Nat} (hj : j < n.legs.length) (t : Int) : MvI w0 G c nv a b e (H.set b (some (.row (aR (n.legs.set j t))))) ⟨n.planes,n.legs.set j t,n.people⟩ := by
 obtain ⟨_,_,_,h4⟩ := m.l.b (fun e => by rw [e] at hj; simp at hj)
 exact ⟨m.sub.setR x.b0,by rw [List.getElem?_set_ne x.bc]; exact m.hc,m.p.set h4 (by simp [aR]) (fun _ => x.ab),m.l.put hj t,m.e.set h4 (by simp [aR]) (fun _ => x.be.symm)⟩
theorem MvI.putE (m : MvI w0 G c nv a b e H n) (x : MvX G.length c a b e) {j : Nat} (hj : j < n.people.length) (t : Int) : MvI w0 G c nv a b e (H.set e (some (.row (aR (n.people.set j t))))) ⟨n.planes,n.legs,n.people.set j t⟩ := by
 obtain ⟨_,_,_,h4⟩ := m.e.b (fun e => by rw [e] at hj; simp at hj)
 exact ⟨m.sub.setR x.e0,by rw [List.getElem?_set_ne x.ec]; exact m.hc,m.p.set h4 (by simp [aR]) (fun _ => x.ae),m.l.set h4 (by simp [aR]) (fun _ => x.be),m.e.put hj t⟩
end
theorem iF.id {H : Heap} {N : Nat} {y : AV} {l : List Int} (a : iF w0 H N y l) (M k : Nat) (hM : H.length ≤ M) (hk : N ≤ M + k) : ∃ id,N ≤ id ∧ (id < H.length ∨ id = M + k) ∧ gC w0 H N id y l := by
 obtain ⟨id,i1,i2⟩ := a.i
 by_cases hl : l = []
 · exact ⟨M + k,hk,.inr rfl,i2.o,fun e => absurd hl e,i2.z⟩
 · exact ⟨id,i1 hl,.inl (i2.b hl).2.1,i2⟩
end Go.Proofs.Ab
namespace Go.Proofs.Ab
open Go Go.Proofs
variable {w0 : World} {h : Heap}
attribute [local irreducible] ACall aS aW aM aP rvC rdC lp rg dr ex un rv rd'
end Go.Proofs.Ab
namespace Go.Proofs.Ab
open Go Go.Proofs
variable {w : World} {h : Heap} {cs : List Value}
end Go.Proofs.Ab
namespace Go.Proofs.Ab
open Go Go.Proofs
variable {w0 : World} {h : Heap}
attribute [local irreducible] ACall aS aW aM aP rvC rdC lp rg dr ex un rv rd'
theorem StS.nil {H : Heap} : StS w0 H ⟨[],[],[]⟩ ⟨.nilS,.nilS,.nilS⟩ := ⟨⟨.inl ⟨rfl,rfl⟩,fun _ => rfl⟩,⟨.inl ⟨rfl,rfl⟩,fun _ => rfl⟩,⟨.inl ⟨rfl,rfl⟩,fun _ => rfl⟩⟩
end Go.Proofs.Ab
namespace Go.Proofs.Ab
open Go Go.Proofs
variable {w0 : World} {h : Heap}
attribute [local irreducible] ACall aS aW aM aP rvC rdC lp rg dr ex un rv rd'
section
variable {d : aQ} {v : cD} {pol : iQ} {pv : AV}
theorem uT.row (a : uT w0 h pv pol) {j : Nat} (hj : j < pol.length) : ∃ (p : Pl) (x : AV),bZ 1 pv (some j) = some (.ptr p) ∧ (∀ L,rd w0 (h ++ L) p = some x) ∧ rd w0 h p = some x ∧ NS w0 h 1 (UnsR w0 h) x pol[j] := by
 obtain ⟨p,c,i,r,x,rfl,s⟩ := NS.at_ a hj
 have t : ∀ L,rd w0 (h ++ L) p = some x := fun L => yP (r L) rfl
 have t' := t []
 rw [List.append_nil] at t'
 exact ⟨p,x,i,t,t',s⟩
end
end Go.Proofs.Ab
namespace Go.Proofs.Ab
open Go Go.Proofs
variable {w0 : World} {h : Heap}
attribute [local irreducible] ACall aS aW aM aP rvC rdC lp rg dr ex un rv rd'
end Go.Proofs.Ab

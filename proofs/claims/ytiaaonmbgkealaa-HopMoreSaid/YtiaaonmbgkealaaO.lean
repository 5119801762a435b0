/- The own layer under the proofs of this seat, part O: what calls of the program come to on an abstract heap. No condition. -/
import Derived.Test.YtiaaonmbgkealaaM
set_option linter.unusedSimpArgs false
set_option linter.unusedVariables false
namespace Go.Proofs.Ab
open Go Go.Proofs
variable {w0 : World} {h : Heap}
attribute [local irreducible] ACall aS aV aM aP rvC rdC lp rg dr ex un rv rd'
section
variable {s : aB} {v : StV}
theorem StS.lens (a : StS w0 h s v) : fA v.pl = some (.int .i64 s.planes.length) ∧ fA v.le = some (.int .i64 s.legs.length) ∧ fA v.pe = some (.int .i64 s.people.length) := ⟨(SlI.use a.planes.s).1,(SlI.use a.legs.s).1,(SlI.use a.people.s).1⟩
theorem StS.ones (a : StS w0 h s v) : one v.pl = true ∧ one v.le = true ∧ one v.pe = true := ⟨a.planes.s.one.1,a.legs.s.one.1,a.people.s.one.1⟩
theorem SlI.at_ {x : AV} {l : List Int} (a : SlI w0 h x l) {j : Nat} (hj : j < l.length) : ∃ p : Pl,cB 1 x (some j) = some (.ptr p) ∧ (∀ L,rd w0 (h ++ L) p = some (.int .i64 l[j])) ∧ rd w0 h p = some (.int .i64 l[j]) := by
 obtain ⟨_,q,qi,qr⟩ := SlI.use a
 have := qr j hj []
 rw [List.append_nil] at this
 exact ⟨_,qi j hj,qr j hj,this⟩
end
theorem UnV.at_ {u : List aD} {v : AV} (a : UnV w0 h v u) {j : Nat} (hj : j < u.length) : ∃ (p : Pl) (pv : AV),cB 2 v (some j) = some (.ptr p) ∧ (∀ L,rdn w0 (h ++ L) p 2 = some [.int .i64 u[j].to,pv]) ∧ (∀ L,rd w0 (h ++ L) (p.add 0) = some (.int .i64 u[j].to)) ∧ (∀ L,rd w0 (h ++ L) (p.add 1) = some pv) ∧ SlI w0 h pv u[j].people := by
 obtain ⟨p,c,p1,p2,pv,rfl,p3⟩ := NS.at_ a hj
 exact ⟨p,pv,p1,p2,fun L => cS (p2 L) rfl,fun L => cS (p2 L) rfl,p3⟩
end Go.Proofs.Ab
namespace Go.Proofs.Ab
open Go Go.Proofs
variable {w0 : World} {h : Heap}
attribute [local irreducible] ACall aS aV aM aP rvC rdC lp rg dr ex un rv rd'
def pkB (m : Nat) (l : List Int) (k : Nat) : Bool := inB (l.getD k 0) 0 ((m : Int) - 1) && (decide (k = 0) || decide (l.getD (k - 1) 0 < l.getD k 0))
def flB (d : aO) (x : aD) : Bool := (inB x.to (-1) ((d.places.length : Int) - 1) && (decide (0 ≤ x.to) || decide (x.people.length = 0))) && (List.range x.people.length).all (pkB d.people.length x.people)
def pG (d : aO) (u : List aD) : Bool := u.all (flB d) && decide (u.length = d.planes.length)
theorem pk_lt {m : Nat} {l : List Int} (h : (List.range l.length).all (pkB m l) = true) : (∀ n ∈ l,0 ≤ n ∧ n < m) ∧ l.Pairwise (· < ·) := by
 have h1 := cL.1 h
 refine ⟨fun n hn => ?_,?_⟩
 · obtain ⟨i,hi,rfl⟩ := List.getElem_of_mem hn
   have := h1 i hi
   simp only [pkB,aH hi,inB,Bool.and_eq_true,decide_eq_true_eq] at this
   omega
 · rw [List.pairwise_iff_getElem]
   have key : ∀ (k i j : Nat) (hi : i < l.length) (hj : j < l.length),j = i + 1 + k → l[i] < l[j] := by
    intro k
    induction k with
    | zero =>
     intro i j hi hj e
     have := h1 j hj
     simp only [pkB,aH hj,Bool.and_eq_true,Bool.or_eq_true,decide_eq_true_eq] at this
     have h2 : l.getD (j - 1) 0 = l[i] := by rw [show j - 1 = i by omega,aH hi]
     rw [h2] at this
     omega
    | succ k ih =>
     intro i j hi hj e
     have a := ih i (j - 1) hi (by omega) (by omega)
     have := h1 j hj
     simp only [pkB,aH hj,Bool.and_eq_true,Bool.or_eq_true,decide_eq_true_eq,aH (show j - 1 < l.length by omega)] at this
     omega
   exact fun i j hi hj hij => key (j - i - 1) i j hi hj (by omega)
theorem aHb {d : aO} {u : List aD} (h : pG d u = true) : sO d u := by
 simp only [pG,flB,Bool.and_eq_true,List.all_eq_true,decide_eq_true_eq] at h
 obtain ⟨h1,h2⟩ := h
 have h3 : ∀ x ∈ u,(List.range x.people.length).all (pkB d.people.length x.people) = true := fun x hx => List.all_eq_true.2 (h1 x hx).2
 refine ⟨h2,fun x hx => ?_,fun x hx ht => ?_,fun x hx => pk_lt (h3 x hx)⟩
 · have := (h1 x hx).1.1
   simp only [inB,Bool.and_eq_true,decide_eq_true_eq] at this
   omega
 · have := (h1 x hx).1.2
   simp only [Bool.or_eq_true,decide_eq_true_eq] at this
   exact List.eq_nil_of_length_eq_zero (by omega)
theorem sO.ok {d : aO} {u : List aD} (a : sO d u) (h4 : d.people.length ≤ 4) : aBX d u := by
 refine ⟨a.len,fun x hx => (a.to x hx).2,fun x hx => (a.pp x hx).1,fun x hx => ?_⟩
 obtain ⟨h1,h2⟩ := a.pp x hx
 have key : ∀ (l : List Int) (b : Int),l.Pairwise (· < ·) → (∀ n ∈ l,b ≤ n ∧ n < 4) → (l.length : Int) ≤ 4 - b ∨ l = [] := by
  intro l
  induction l with
  | nil => intro b _ _; exact .inr rfl
  | cons a l ih =>
   intro b hp hb
   obtain ⟨p1,p2⟩ := List.pairwise_cons.1 hp
   have hab := hb a (by simp)
   rcases ih (a + 1) p2 (fun n hn => ⟨by have := p1 n hn; omega,(hb n (by simp [hn])).2⟩) with h | h
   · left; simp; omega
   · subst h; left; simp; omega
 rcases key x.people 0 h2 (fun n hn => by have := h1 n hn; omega) with h | h
 · omega
 · rw [h]; simp
end Go.Proofs.Ab
namespace Go.Proofs.Ab
open Go Go.Proofs
variable {w0 : World} {h : Heap}
attribute [local irreducible] ACall aS aV aM aP rvC rdC lp rg dr ex un rv rd'
section
variable {d : aO} {v : cJ} {m : AV} {i ib : Nat}
end
section
variable {d : aO} {v : cJ} {m : AV} {i ib ix : Nat}
end
end Go.Proofs.Ab
namespace Go.Proofs.Ab
open Go Go.Proofs
variable {w0 : World} {h : Heap}
attribute [local irreducible] ACall aS aV aM aP rvC rdC lp rg dr ex un rv rd'
theorem iQ.set {H : Heap} {N k : Nat} {y : AV} {l : List Int} {c c' : List AV} (a : iQ w0 H N y l) (hk : H[k]? = some (some (.row c))) (hc : c'.length = c.length) (hN : k < N) : iQ w0 (H.set k (some (.row c'))) N y l := by
 obtain ⟨id,i1,a1⟩ := a.i
 exact (a1.set (c' := c') hk hc fun e => by have := i1 e; omega).toL (Nat.le_refl _)
theorem aAS.set {H : Heap} {N k : Nat} {s : aB} {sv : StV} {c c' : List AV} (a : aAS w0 H N s sv) (hk : H[k]? = some (some (.row c))) (hc : c'.length = c.length) (hN : k < N) : aAS w0 (H.set k (some (.row c'))) N s sv := ⟨a.p.set hk hc hN,a.l.set hk hc hN,a.e.set hk hc hN⟩
theorem aAS.here {H : Heap} {N : Nat} {s : aB} {sv : StV} (a : aAS w0 H N s sv) : StS w0 H s sv := ⟨a.p.o,a.l.o,a.e.o⟩
end Go.Proofs.Ab
namespace Go.Proofs.Ab
open Go Go.Proofs
variable {w0 : World} {h : Heap}
attribute [local irreducible] ACall aS aV aM aP rvC rdC lp rg dr ex un rv rd'
section
variable {d : aO} {v : cJ} {s : aB} {sv : StV}
end
end Go.Proofs.Ab
namespace Go.Proofs.Ab
open Go Go.Proofs
variable {w0 : World} {h : Heap}
attribute [local irreducible] ACall aS aV aM aP rvC rdC lp rg dr ex un rv rd'
section
variable {d : aO} {v : cJ} {s : aB} {sv : StV}
end
end Go.Proofs.Ab
namespace Go.Proofs.Ab
open Go Go.Proofs
variable {w0 : World} {h : Heap}
attribute [local irreducible] ACall aS aV aM aP rvC rdC lp rg dr ex un rv rd'
structure MvI (w0 : World) (G : Heap) (c : Nat) (nv : StV) (a b e : Nat) (H : Heap) (n : aB) : Prop where
 sub : aC G H
 hc : H[c]? = some (some (.row (stC nv)))
 p : gM w0 H G.length a nv.pl n.planes
 l : gM w0 H G.length b nv.le n.legs
 e : gM w0 H G.length e nv.pe n.people
structure MvX (N c a b e : Nat) : Prop where
 c0 : N ≤ c
 a0 : N ≤ a
 b0 : N ≤ b
 e0 : N ≤ e
 ac : a ≠ c
 bc : b ≠ c
 ec : e ≠ c
 ab : a ≠ b
 ae : a ≠ e
 be : b ≠ e
section
variable {G H : Heap} {c a b e : Nat} {nv : StV} {n : aB}
theorem MvI.putP (m : MvI w0 G c nv a b e H n) (x : MvX G.length c a b e) {j : Nat} (hj : j < n.planes.length) (t : Int) : MvI w0 G c nv a b e (H.set a (some (.row (aQ (n.planes.set j t))))) ⟨n.planes.set j t,n.legs,n.people⟩ := by
 obtain ⟨_,_,_,h4⟩ := m.p.b (fun e => by rw [e] at hj; simp at hj)
 exact ⟨m.sub.setR x.a0,by rw [List.getElem?_set_ne x.ac]; exact m.hc,m.p.put hj t,m.l.set h4 (by simp [aQ]) (fun _ => x.ab.symm),m.e.set h4 (by simp [aQ]) (fun _ => x.ae.symm)⟩
theorem MvI.putL (m : MvI w0 G c nv a b e H n) (x : MvX G.length c a b e) {j : Nat} (hj : j < n.legs.length) (t : Int) : MvI w0 G c nv a b e (H.set b (some (.row (aQ (n.legs.set j t))))) ⟨n.planes,n.legs.set j t,n.people⟩ := by
 obtain ⟨_,_,_,h4⟩ := m.l.b (fun e => by rw [e] at hj; simp at hj)
 exact ⟨m.sub.setR x.b0,by rw [List.getElem?_set_ne x.bc]; exact m.hc,m.p.set h4 (by simp [aQ]) (fun _ => x.ab),m.l.put hj t,m.e.set h4 (by simp [aQ]) (fun _ => x.be.symm)⟩
theorem MvI.putE (m : MvI w0 G c nv a b e H n) (x : MvX G.length c a b e) {j : Nat} (hj : j < n.people.length) (t : Int) : MvI w0 G c nv a b e (H.set e (some (.row (aQ (n.people.set j t))))) ⟨n.planes,n.legs,n.people.set j t⟩ := by
 obtain ⟨_,_,_,h4⟩ := m.e.b (fun e => by rw [e] at hj; simp at hj)
 exact ⟨m.sub.setR x.e0,by rw [List.getElem?_set_ne x.ec]; exact m.hc,m.p.set h4 (by simp [aQ]) (fun _ => x.ae),m.l.set h4 (by simp [aQ]) (fun _ => x.be),m.e.put hj t⟩
end
theorem iQ.id {H : Heap} {N : Nat} {y : AV} {l : List Int} (a : iQ w0 H N y l) (M k : Nat) (hM : H.length ≤ M) (hk : N ≤ M + k) : ∃ id,N ≤ id ∧ (id < H.length ∨ id = M + k) ∧ gM w0 H N id y l := by
 obtain ⟨id,i1,i2⟩ := a.i
 by_cases hl : l = []
 · exact ⟨M + k,hk,.inr rfl,i2.o,fun e => absurd hl e,i2.z⟩
 · exact ⟨id,i1 hl,.inl (i2.b hl).2.1,i2⟩
end Go.Proofs.Ab
namespace Go.Proofs.Ab
open Go Go.Proofs
variable {w0 : World} {h : Heap}
attribute [local irreducible] ACall aS aV aM aP rvC rdC lp rg dr ex un rv rd'
end Go.Proofs.Ab
namespace Go.Proofs.Ab
open Go Go.Proofs
variable {w : World} {h : Heap} {cs : List Value}
end Go.Proofs.Ab
namespace Go.Proofs.Ab
open Go Go.Proofs
variable {w0 : World} {h : Heap}
attribute [local irreducible] ACall aS aV aM aP rvC rdC lp rg dr ex un rv rd'
theorem StS.nil {H : Heap} : StS w0 H ⟨[],[],[]⟩ ⟨.nilS,.nilS,.nilS⟩ := ⟨⟨.inl ⟨rfl,rfl⟩,fun _ => rfl⟩,⟨.inl ⟨rfl,rfl⟩,fun _ => rfl⟩,⟨.inl ⟨rfl,rfl⟩,fun _ => rfl⟩⟩
end Go.Proofs.Ab
namespace Go.Proofs.Ab
open Go Go.Proofs
variable {w0 : World} {h : Heap}
attribute [local irreducible] ACall aS aV aM aP rvC rdC lp rg dr ex un rv rd'
section
variable {d : aO} {v : cJ} {pol : jC} {pv : AV}
theorem vL.row (a : vL w0 h pv pol) {j : Nat} (hj : j < pol.length) : ∃ (p : Pl) (x : AV),cB 1 pv (some j) = some (.ptr p) ∧ (∀ L,rd w0 (h ++ L) p = some x) ∧ rd w0 h p = some x ∧ NS w0 h 1 (UnsR w0 h) x pol[j] := by
 obtain ⟨p,c,i,r,x,rfl,s⟩ := NS.at_ a hj
 have t : ∀ L,rd w0 (h ++ L) p = some x := fun L => zT (r L) rfl
 have t' := t []
 rw [List.append_nil] at t'
 exact ⟨p,x,i,t,t',s⟩
end
end Go.Proofs.Ab
namespace Go.Proofs.Ab
open Go Go.Proofs
variable {w0 : World} {h : Heap}
attribute [local irreducible] ACall aS aV aM aP rvC rdC lp rg dr ex un rv rd'
end Go.Proofs.Ab

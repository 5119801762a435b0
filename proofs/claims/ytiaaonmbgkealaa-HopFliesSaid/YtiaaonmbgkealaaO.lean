/- The own layer under the proofs of this seat, part O: what calls of the program come to on an abstract heap. No condition. -/
import Derived.Test.YtiaaonmbgkealaaM
set_option linter.unusedSimpArgs false
set_option linter.unusedVariables false
namespace Go.Proofs.Ab
open Go Go.Proofs
variable {w0 : World} {h : Heap}
attribute [local irreducible] ACall aV aW aM aQ rvC rdC lp rg dr ex un rv rd'
section
variable {s : aE} {v : StV}
theorem StS.lens (a : StS w0 h s v) : eD v.pl = some (.int .i64 s.planes.length) ∧ eD v.le = some (.int .i64 s.legs.length) ∧ eD v.pe = some (.int .i64 s.people.length) := ⟨(SlI.use a.planes.s).1,(SlI.use a.legs.s).1,(SlI.use a.people.s).1⟩
theorem StS.ones (a : StS w0 h s v) : one v.pl = true ∧ one v.le = true ∧ one v.pe = true := ⟨a.planes.s.one.1,a.legs.s.one.1,a.people.s.one.1⟩
theorem SlI.at_ {x : AV} {l : List Int} (a : SlI w0 h x l) {j : Nat} (hj : j < l.length) : ∃ p : Pl,bY 1 x (some j) = some (.ptr p) ∧ (∀ L,rd w0 (h ++ L) p = some (.int .i64 l[j])) ∧ rd w0 h p = some (.int .i64 l[j]) := by
 obtain ⟨_,q,qi,qr⟩ := SlI.use a
 have := qr j hj []
 rw [List.append_nil] at this
 exact ⟨_,qi j hj,qr j hj,this⟩
end
def vL (s : aE) : Bool := decide (s.planes.length ≤ 12) && (decide (s.legs.length ≤ 12) && decide (s.people.length ≤ 12))
theorem lean_c (s : aE) (v : StV) (hS : StS w0 h s v) : aM Try.prog w0 50 [.agg (stC v)] h (.bool (vL s)) h := by
 refine aI aJ aH2 mf50_b mf50_g (Nat.le_of_ble_eq_true rfl) (by simp [AV.bdd,AV.bdds]) fun hb ha => aR ?_
 obtain ⟨l1,l2,l3⟩ := hS.lens
 obtain ⟨o1,o2,o3⟩ := hS.ones
 have h5 : ∀ a : Nat,((a : Int) ≤ 12) = (a ≤ 12) := fun a => by simp only [eq_iff_iff]; omega
 simp only [go_sem,mf50,stC,o1,o2,o3,l1,l2,l3,h5]
 refine ⟨fun e1 => ⟨fun e2 => ?_,fun e2 => ?_⟩,fun e1 => ?_⟩
 · simp [vL,e1,e2]
 · simp only [vL,decide_eq_false e2,Bool.false_and,Bool.and_false]
 · simp only [vL,decide_eq_false e1,Bool.false_and,Bool.and_false]
theorem UnV.at_ {u : List aF} {v : AV} (a : UnV w0 h v u) {j : Nat} (hj : j < u.length) : ∃ (p : Pl) (pv : AV),bY 2 v (some j) = some (.ptr p) ∧ (∀ L,rdn w0 (h ++ L) p 2 = some [.int .i64 u[j].to,pv]) ∧ (∀ L,rd w0 (h ++ L) (p.add 0) = some (.int .i64 u[j].to)) ∧ (∀ L,rd w0 (h ++ L) (p.add 1) = some pv) ∧ SlI w0 h pv u[j].people := by
 obtain ⟨p,c,p1,p2,pv,rfl,p3⟩ := NS.at_ a hj
 exact ⟨p,pv,p1,p2,fun L => bX (p2 L) rfl,fun L => bX (p2 L) rfl,p3⟩
def yD (u : List aF) : Bool := u.all (fun x => decide (x.people.length ≤ 12)) && decide (u.length ≤ 12)
theorem thin_c (u : List aF) (v : AV) (hU : UnV w0 h v u) (hl : u.length ≤ 9223372036854775807) : aM Try.prog w0 51 [v] h (.bool (yD u)) h := by
 refine aI aJ aH1 mf51_b mf51_g (Nat.le_of_ble_eq_true rfl) (by simp [AV.bdd,AV.bdds]) fun hb ha => aR ?_
 have l1 := NS.len hU
 simp only [go_sem,mf51]
 refine cP (fun j => [(0,v),(3,.int .i64 j)]) (fun j => ∀ hj : j < u.length,u[j].people.length ≤ 12) u.length rfl (fun j hj hi ih => ?_) (fun es => ?_)
 · refine aC aJ aCS [0,3] L51_0.eq_1 ?_
   have i3 : (j : Int) < u.length := by omega
   obtain ⟨p,pv,p1,_,_,p4,p5⟩ := hU.at_ hj
   have p4' := p4 []
   rw [List.append_nil] at p4'
   have l2 := (SlI.use p5).1
   simp only [go_sem,l1,i3,p1,p4,p4',l2]
   refine ⟨fun e => ?_,fun e => ⟨(by unfold I64; omega),by simpa using ih fun _ => by omega⟩⟩
   have : u.all (fun x => decide (x.people.length ≤ 12)) = false := List.all_eq_false.2 ⟨_,List.getElem_mem hj,by simp; omega⟩
   simp [yD,this]
 refine aC aJ aCS [0,3] L51_0.eq_1 ?_
 have x1 : ¬ (u.length : Int) < u.length := by omega
 have h5 : ((u.length : Int) ≤ 12) = (u.length ≤ 12) := by simp only [eq_iff_iff]; omega
 simp only [go_sem,l1,x1,h5]
 have : u.all (fun x => decide (x.people.length ≤ 12)) = true := List.all_eq_true.2 fun x hx => by
  obtain ⟨i,hi,rfl⟩ := List.getElem_of_mem hx
  simpa using es i hi hi
 simp [yD,this]
theorem rJ (a b : aE) (va vb : StV) (ha' : StS w0 h a va) (hb' : StS w0 h b vb) (n1 : a.planes.length < 1000000) (n2 : a.legs.length < 1000000) (n3 : a.people.length < 1000000) :
 aM Try.prog w0 53 [.agg (stC va),.agg (stC vb)] h (.bool (decide (a.planes = b.planes) && (decide (a.legs = b.legs) && decide (a.people = b.people)))) h := by
 refine aI aJ aHZ mf53_b mf53_g (Nat.le_of_ble_eq_true rfl) (by simp [AV.bdd,AV.bdds]) fun hb ha => aR ?_
 obtain ⟨o1,o2,o3⟩ := ha'.ones
 obtain ⟨o4,o5,o6⟩ := hb'.ones
 simp only [go_sem,mf53,stC,o1,o2,o3,o4,o5,o6]
 refine aD (sY _ _ va.pl vb.pl (Sl.app ha'.planes.s) (Sl.app hb'.planes.s) n1).v ?_
 cases e1 : decide (a.planes = b.planes) with
 | false =>
  simp only [go_sem]
  rfl
 | true =>
 simp only [go_sem,o1,o2,o3,o4,o5,o6]
 refine aD (sY _ _ va.le vb.le (Sl.app ha'.legs.s) (Sl.app hb'.legs.s) n2).v ?_
 cases e2 : decide (a.legs = b.legs) with
 | false =>
  simp only [go_sem]
  rfl
 | true =>
 simp only [go_sem,o1,o2,o3,o4,o5,o6]
 refine aD (sY _ _ va.pe vb.pe (Sl.app ha'.people.s) (Sl.app hb'.people.s) n3).v ?_
 simp only [go_sem]
def cY (d : aP) (s : aE) : Bool := decide (s.planes.length = d.planes.length) && (decide (s.legs.length = d.planes.length) && (decide (s.people.length = d.people.length) && (s.planes.all (bE d.places.length) && (s.people.all (bE d.places.length) && s.legs.all fun x => inB x 0 5))))
theorem aEx (d : aP) (v : cF) (s : aE) (sv : StV) (hR : gD w0 h d v) (hS : StS w0 h s sv) (m1 : s.planes.length < 1000000) (m3 : s.people.length < 1000000) : aM Try.prog w0 49 [.agg (aS v),.agg (stC sv)] h (.bool (cY d s)) h := by
 refine aI aJ aH3 mf49_b mf49_g (Nat.le_of_ble_eq_true rfl) (by simp [AV.bdd,AV.bdds]) fun hb ha => aR ?_
 obtain ⟨l1,l2,l3,l4,l5⟩ := hR.lens
 obtain ⟨o1,o2,o3,o4,o5⟩ := hR.ones
 obtain ⟨k1,k2,k3⟩ := hS.lens
 obtain ⟨q1,q2,q3⟩ := hS.ones
 have n1 := hR.l1
 simp only [go_sem,mf49,aS,stC,o1,o2,o3,o4,o5,q1,q2,q3,l3,l4,k1,k2,k3]
 refine ⟨fun e1 => ⟨fun e2 => ⟨fun e3 => ?_,fun e3 => ?_⟩,fun e2 => ?_⟩,fun e1 => ?_⟩
 · have : s.people.length ≠ d.people.length := by omega
   simp [cY,this]
 · have e1' : s.planes.length = d.planes.length := by omega
   have e2' : s.legs.length = d.planes.length := by omega
   have e3' : s.people.length = d.people.length := by omega
   have hin : ∀ x : Int,inB x 0 ((d.places.length : Int) - 1) = bE d.places.length x := fun x => rfl
   have c0 : cY d s = (s.planes.all (bE d.places.length) && (s.people.all (bE d.places.length) && s.legs.all fun x => inB x 0 5)) := by simp [cY,e1',e2',e3']
   have p1 : ∀ L,(h ++ [some (Blk.row (aS v)),some (Blk.row (stC sv))] ++ L)[h.length]? = some (some (.row (aS v))) := fun L => aA (by simp)
   refine cP (fun j => [(2,.ptr (.own h.length 0)),(3,.ptr (.own (h.length + 1) 0)),(5,.int .i64 j)]) (fun j => bE d.places.length (s.planes.getD j 0) = true ∧ inB (s.legs.getD j 0) 0 5 = true) s.planes.length rfl (fun j hj hall ih => ?_) (fun f1 => ?_)
   · refine aC aJ aCU [2,3,5] L49_0.eq_1 ?_
     have i3 : (j : Int) < s.planes.length := by omega
     have hj2 : j < s.legs.length := by omega
     obtain ⟨a,a1,a2,_⟩ := hS.planes.s.at_ hj
     obtain ⟨b,b1,b2,_⟩ := hS.legs.s.at_ hj2
     rw [aH hj,aH hj2] at ih
     simp only [go_sem,k1,i3,a1,a2,l1]
     refine ⟨(by unfold I64; omega),?_⟩
     refine dP (fN _ _ _).v ?_
     rw [hin]
     cases e5 : bE d.places.length s.planes[j] with
     | false =>
      simp only [go_sem]
      rw [c0,List.all_eq_false.2 ⟨_,List.getElem_mem hj,by simp [e5]⟩]; rfl
     | true =>
     simp only [go_sem,b1,b2]
     refine dP (fN _ _ _).v ?_
     cases e6 : inB s.legs[j] 0 5 with
     | false =>
      simp only [go_sem]
      have : (s.legs.all fun x => inB x 0 5) = false := List.all_eq_false.2 ⟨_,List.getElem_mem hj2,by simp [e6]⟩
      rw [c0,this]; simp
     | true =>
      simp only [go_sem]
      exact ⟨(by unfold I64; omega),ih ⟨e5,e6⟩⟩
   refine aC aJ aCU [2,3,5] L49_0.eq_1 ?_
   have x1 : ¬ (s.planes.length : Int) < s.planes.length := by omega
   simp only [go_sem,k1,x1]
   refine cP (fun j => [(2,.ptr (.own h.length 0)),(3,.ptr (.own (h.length + 1) 0)),(6,.int .i64 j)]) (fun j => bE d.places.length (s.people.getD j 0) = true) s.people.length rfl (fun j hj hall ih => ?_) (fun f2 => ?_)
   · refine aC aJ aCT [2,3,6] L49_1.eq_1 ?_
     have i3 : (j : Int) < s.people.length := by omega
     obtain ⟨a,a1,a2,_⟩ := hS.people.s.at_ hj
     rw [aH hj] at ih
     simp only [go_sem,k3,i3,a1,a2,l1]
     refine ⟨(by unfold I64; omega),?_⟩
     refine dP (fN _ _ _).v ?_
     rw [hin]
     cases e5 : bE d.places.length s.people[j] with
     | false =>
      simp only [go_sem]
      have : s.people.all (bE d.places.length) = false := List.all_eq_false.2 ⟨_,List.getElem_mem hj,by simp [e5]⟩
      rw [c0,this]; simp
     | true =>
      simp only [go_sem]
      exact ⟨(by unfold I64; omega),ih e5⟩
   refine aC aJ aCT [2,3,6] L49_1.eq_1 ?_
   have x2 : ¬ (s.people.length : Int) < s.people.length := by omega
   simp only [go_sem,k3,x2]
   have g1 : s.planes.all (bE d.places.length) = true := by rw [← cE (x := 0)]; exact bS.2 fun i hi => (f1 i hi).1
   have g2 : s.people.all (bE d.places.length) = true := by rw [← cE (x := 0)]; exact bS.2 f2
   have g3 : (s.legs.all fun x => inB x 0 5) = true := by rw [← cE (x := 0)]; exact bS.2 fun i hi => (f1 i (by omega)).2
   rw [c0,g1,g2,g3]; rfl
 · have : s.legs.length ≠ d.planes.length := by omega
   simp [cY,this]
 · have : s.planes.length ≠ d.planes.length := by omega
   simp [cY,this]
end Go.Proofs.Ab
namespace Go.Proofs.Ab
open Go Go.Proofs
variable {w0 : World} {h : Heap}
attribute [local irreducible] ACall aV aW aM aQ rvC rdC lp rg dr ex un rv rd'
def pkB (m : Nat) (l : List Int) (k : Nat) : Bool := inB (l.getD k 0) 0 ((m : Int) - 1) && (decide (k = 0) || decide (l.getD (k - 1) 0 < l.getD k 0))
def flB (d : aP) (x : aF) : Bool := (inB x.to (-1) ((d.places.length : Int) - 1) && (decide (0 ≤ x.to) || decide (x.people.length = 0))) && (List.range x.people.length).all (pkB d.people.length x.people)
def jX (d : aP) (u : List aF) : Bool := u.all (flB d) && decide (u.length = d.planes.length)
theorem pk_lt {m : Nat} {l : List Int} (h : (List.range l.length).all (pkB m l) = true) : (∀ n ∈ l,0 ≤ n ∧ n < m) ∧ l.Pairwise (· < ·) := by
 have h1 := bS.1 h
 refine ⟨fun n hn => ?_,?_⟩
 · obtain ⟨i,hi,rfl⟩ := List.getElem_of_mem hn
   have := h1 i hi
   simp only [pkB,aH hi,inB,Bool.and_eq_true,decide_eq_true_eq] at this
   omega
 · rw [List.pairwise_iff_getElem]
   have key : ∀ (k i j : Nat) (hi : i < l.length) (hj : j < l.length),j = i + 1 + k → l[i] < l[j] := by
    intro k
    induction k with
    | zero =>
     intro i j hi hj e
     have := h1 j hj
     simp only [pkB,aH hj,Bool.and_eq_true,Bool.or_eq_true,decide_eq_true_eq] at this
     have h2 : l.getD (j - 1) 0 = l[i] := by rw [show j - 1 = i by omega,aH hi]
     rw [h2] at this
     omega
    | succ k ih =>
     intro i j hi hj e
     have a := ih i (j - 1) hi (by omega) (by omega)
     have := h1 j hj
     simp only [pkB,aH hj,Bool.and_eq_true,Bool.or_eq_true,decide_eq_true_eq,aH (show j - 1 < l.length by omega)] at this
     omega
   exact fun i j hi hj hij => key (j - i - 1) i j hi hj (by omega)
theorem aBI {d : aP} {u : List aF} (h : jX d u = true) : uD d u := by
 simp only [jX,flB,Bool.and_eq_true,List.all_eq_true,decide_eq_true_eq] at h
 obtain ⟨h1,h2⟩ := h
 have h3 : ∀ x ∈ u,(List.range x.people.length).all (pkB d.people.length x.people) = true := fun x hx => List.all_eq_true.2 (h1 x hx).2
 refine ⟨h2,fun x hx => ?_,fun x hx ht => ?_,fun x hx => pk_lt (h3 x hx)⟩
 · have := (h1 x hx).1.1
   simp only [inB,Bool.and_eq_true,decide_eq_true_eq] at this
   omega
 · have := (h1 x hx).1.2
   simp only [Bool.or_eq_true,decide_eq_true_eq] at this
   exact List.eq_nil_of_length_eq_zero (by omega)
theorem uD.ok {d : aP} {u : List aF} (a : uD d u) (h4 : d.people.length ≤ 4) : aBw d u := by
 refine ⟨a.len,fun x hx => (a.to x hx).2,fun x hx => (a.pp x hx).1,fun x hx => ?_⟩
 obtain ⟨h1,h2⟩ := a.pp x hx
 have key : ∀ (l : List Int) (b : Int),l.Pairwise (· < ·) → (∀ n ∈ l,b ≤ n ∧ n < 4) → (l.length : Int) ≤ 4 - b ∨ l = [] := by
  intro l
  induction l with
  | nil => intro b _ _; exact .inr rfl
  | cons a l ih =>
   intro b hp hb
   obtain ⟨p1,p2⟩ := List.pairwise_cons.1 hp
   have hab := hb a (by simp)
   rcases ih (a + 1) p2 (fun n hn => ⟨by have := p1 n hn; omega,(hb n (by simp [hn])).2⟩) with h | h
   · left; simp; omega
   · subst h; left; simp; omega
 rcases key x.people 0 h2 (fun n hn => by have := h1 n hn; omega) with h | h
 · omega
 · rw [h]; simp
theorem aHi (d : aP) (v : cF) (u : List aF) (uv : AV) (hR : gD w0 h d v) (hU : UnV w0 h uv u) (hn : u.length < 1000000) (hp : ∀ x ∈ u,x.people.length < 1000000) : aM Try.prog w0 55 [.agg (aS v),uv] h (.bool (jX d u)) h := by
 refine iZ trivial (bB aJ aHX mf55_b mf55_g (Nat.le_of_ble_eq_true rfl) fun hb ha => aR ?_)
 obtain ⟨l1,l2,l3,l4,l5⟩ := hR.lens
 obtain ⟨o1,o2,o3,o4,o5⟩ := hR.ones
 have n1 := hR.l1
 have n4 := hR.l4
 have lu := NS.len hU
 obtain ⟨K0,eK0⟩ : ∃ K0 : Heap,K0 = h ++ [some (.row (aS v))] := ⟨_,rfl⟩
 have s0 : aB h K0 := eK0 ▸ aB.refl.app
 have g0 : K0[h.length]? = some (some (.row (aS v))) := by rw [eK0]; simp
 have hU0 := hU.sub s0
 simp only [go_sem,mf55,o1,o2,o3,o4,o5]
 rw [show h ++ [some (Blk.row [v.pl,v.ln,v.pn,v.pe,v.we])] = K0 by rw [eK0]; rfl]
 refine fG (S := Nat × Heap) (F := fun s => [(1,uv),(2,.ptr (.own h.length 0)),(5,.int .i64 s.1)]) (H := fun s => s.2) (meas := fun s => u.length - s.1)
  (Inv := fun s => s.1 ≤ u.length ∧ aB K0 s.2 ∧ ∀ (j : Nat) (_ : j < s.1) (hj : j < u.length),flB d u[j] = true) (0,K0) ⟨Nat.zero_le _,aB.refl,fun j hj => absurd hj (by simp)⟩ rfl rfl ?_
 rintro ⟨j,G⟩ ⟨hj,sG,f1⟩ ih
 simp only at hj sG f1 ih
 refine aC aJ aJ5 [1,2,5] L55_1.eq_1 ?_
 have gG := sG.2 _ _ g0
 have bG : ∀ L,(G ++ L)[h.length]? = some (some (.row (aS v))) := fun L => aA gG
 rcases Nat.lt_or_ge j u.length with hjl | hjl
 · have i3 : (j : Int) < u.length := by omega
   obtain ⟨p,pv,p1,p2K,_,_,p5⟩ := hU0.at_ hjl
   obtain ⟨x,ex⟩ : ∃ x,x = u[j] := ⟨_,rfl⟩
   rw [← ex] at p2K p5
   have p2 : ∀ L,rdn w0 (G ++ L) p 2 = some [.int .i64 x.to,pv] := fun L => (sG.app (L := L)).rdn (by simpa using p2K [])
   have p2' := p2 []
   rw [List.append_nil] at p2'
   have opv := p5.one.1
   have cpv := p5.one.2
   have lpp := (SlI.use p5).1
   have hnp := hp x (by rw [ex]; exact List.getElem_mem hjl)
   have sG2 : ∀ L,aB h (G ++ L) := fun L => s0.trans sG.app
   have hno : flB d x = false → jX d u = false := fun e => by
    have : u.all (flB d) = false := List.all_eq_false.2 ⟨x,by rw [ex]; exact List.getElem_mem hjl,by simp [e]⟩
    simp [jX,this]
   obtain ⟨b6,eb6⟩ : ∃ b,b = G.length := ⟨_,rfl⟩
   have g6 : (G ++ [some (.row [.int .i64 x.to,pv])])[b6]? = some (some (.row [.int .i64 x.to,pv])) := by rw [eb6]; simp
   have g6L : ∀ L,(G ++ [some (.row [.int .i64 x.to,pv])] ++ L)[b6]? = some (some (.row [.int .i64 x.to,pv])) := fun L => aA g6
   simp only [go_sem,lu,i3,gG,bG,aS,p1,p2,p2',opv,cpv,l1]
   refine ⟨(by unfold I64; omega),?_⟩
   refine aD (fN _ _ _).v ?_
   cases e1 : inB x.to (-1) ((d.places.length : Int) - 1) with
   | false =>
    simp only [go_sem]
    exact ⟨sG2 _,by rw [hno (by simp [flB,e1])]⟩
   | true =>
   by_cases t0 : x.to < 0
   focus
    simp only [go_sem,t0,opv,cpv,lpp]
    refine ⟨fun e => ⟨sG2 _,by rw [hno (by
     have h1 : ¬ 0 ≤ x.to := by omega
     have h2 : ¬ x.people.length = 0 := by omega
     simp only [flB,decide_eq_false h1,decide_eq_false h2,Bool.or_false,Bool.and_false,Bool.false_and])]⟩,fun e => ?_⟩
    have e2 : (decide (0 ≤ x.to) || decide (x.people.length = 0)) = true := by
     have : x.people.length = 0 := by omega
     rw [decide_eq_true this,Bool.or_true]
    clear e
   rotate_left
   focus
    simp only [go_sem,t0]
    have e2 : (decide (0 ≤ x.to) || decide (x.people.length = 0)) = true := by
     have : 0 ≤ x.to := by omega
     rw [decide_eq_true this,Bool.true_or]
   all_goals
    rw [← eb6]
    refine cP (fun k => [(1,uv),(2,.ptr (.own h.length 0)),(5,.int .i64 j),(6,.ptr (.own b6 0)),(7,.int .i64 k)]) (fun k => pkB d.people.length x.people k = true) x.people.length rfl (fun k hk _ ih2 => ?_) (fun f2 => ?_)
    · refine aC aJ aCP [1,2,5,6,7] L55_0.eq_1 ?_
      have i4 : (k : Int) < x.people.length := by omega
      obtain ⟨a,a1,a2K,_⟩ := SlI.at_ p5 hk
      have hsG6 : ∀ L,aB K0 (G ++ [some (.row [.int .i64 x.to,pv])] ++ L) := fun L => sG.app.app
      have a2 : ∀ L,rd w0 (G ++ [some (.row [.int .i64 x.to,pv])] ++ L) a = some (.int .i64 x.people[k]) := fun L => (hsG6 L).rd (by simpa using a2K [])
      have a2' := a2 []
      have gG6 : (G ++ [some (Blk.row [.int .i64 x.to,pv])])[h.length]? = some (some (.row (aS v))) := bG _
      have bG6 : ∀ L,(G ++ [some (Blk.row [.int .i64 x.to,pv])] ++ L)[h.length]? = some (some (.row (aS v))) := fun L => aA gG6
      rw [List.append_nil] at a2'
      have hpk : pkB d.people.length x.people k = (inB x.people[k] 0 ((d.people.length : Int) - 1) && (decide (k = 0) || decide (x.people.getD (k - 1) 0 < x.people[k]))) := by rw [pkB,aH hk]
      have hno2 : pkB d.people.length x.people k = false → jX d u = false := fun e => hno (by
       have : (List.range x.people.length).all (pkB d.people.length x.people) = false := List.all_eq_false.2 ⟨k,List.mem_range.2 hk,by simp [e]⟩
       simp only [flB,this,Bool.and_false])
      obtain ⟨G6,eG6⟩ : ∃ G6,G6 = G ++ [some (Blk.row [.int .i64 x.to,pv])] := ⟨_,rfl⟩
      rw [← eG6] at g6 g6L a2 a2' gG6 bG6 ⊢
      rw [← eG6] at ih2
      simp only [go_sem,g6,g6L,i4,lpp,a1,a2,a2',gG6,bG6,aS,l4]
      refine ⟨(by unfold I64; omega),?_⟩
      refine dP (fN _ _ _).v ?_
      cases e3 : inB x.people[k] 0 ((d.people.length : Int) - 1) with
      | false =>
       simp only [go_sem]
       exact ⟨eG6 ▸ sG2 _,by rw [hno2 (by rw [hpk,e3]; rfl)]⟩
      | true =>
      rcases k with _ | m
      · simp only [go_sem]
        exact ⟨fun e => absurd e (by simp),fun _ => ⟨(by unfold I64; omega),ih2 (by rw [hpk,e3]; rfl)⟩⟩
      · have hm : m < x.people.length := by omega
        have c0 : (0 : Int) < ((m + 1 : Nat) : Int) := by omega
        have ek : (((m + 1 : Nat) : Int) - 1) = (m : Int) := by omega
        obtain ⟨b,b1,b2K,_⟩ := SlI.at_ p5 hm
        have b2 : ∀ L,rd w0 (G6 ++ L) b = some (.int .i64 x.people[m]) := fun L => by rw [eG6]; exact (hsG6 L).rd (by simpa using b2K [])
        have b2' := b2 []
        rw [List.append_nil] at b2'
        have hpk2 : pkB d.people.length x.people (m + 1) = decide (x.people[m] < x.people[m + 1]) := by
         rw [hpk,e3,Nat.add_sub_cancel,aH hm]; simp
        simp only [go_sem,c0,g6,g6L,a1,a2,a2',ek,b1,b2,b2']
        refine ⟨(by unfold I64; omega),fun e => ?_,fun e => ⟨(by unfold I64; omega),ih2 (by rw [hpk2]; exact decide_eq_true (by omega))⟩⟩
        exact ⟨eG6 ▸ sG2 _,by rw [hno2 (by rw [hpk2]; exact decide_eq_false (by omega))]⟩
    · refine aC aJ aCP [1,2,5,6,7] L55_0.eq_1 ?_
      have i4 : ¬ (x.people.length : Int) < x.people.length := by omega
      simp only [go_sem,g6,g6L,i4,lpp]
      have hyes : flB d x = true := by rw [flB,e1,e2,bS.2 f2]; rfl
      have := ih (j + 1,G ++ [some (.row [.int .i64 x.to,pv])]) ⟨by simp only; omega,sG.app,fun q hq hq2 => by
       simp only at hq
       rcases Nat.lt_or_ge q j with h1 | h1
       · exact f1 q h1 hq2
       · obtain rfl : q = j := by omega
         rw [← ex]; exact hyes⟩ (by simp only; omega)
      exact ⟨(by unfold I64; omega),by simpa using this⟩
 · have i3 : ¬ (j : Int) < u.length := by omega
   obtain rfl : j = u.length := by omega
   simp only [go_sem,lu,i3,gG,bG,aS,l3]
   refine ⟨s0.trans sG,?_⟩
   have h1 : u.all (flB d) = true := List.all_eq_true.2 fun y hy => by
    obtain ⟨i,hi,rfl⟩ := List.getElem_of_mem hy
    exact f1 i hi hi
   rw [jX,h1,Bool.true_and]
   have : ((u.length : Int) == d.planes.length) = decide (u.length = d.planes.length) := by
    rw [Bool.eq_iff_iff]; simp; omega
   rw [this]
end Go.Proofs.Ab
namespace Go.Proofs.Ab
open Go Go.Proofs
variable {w0 : World} {h : Heap}
attribute [local irreducible] ACall aV aW aM aQ rvC rdC lp rg dr ex un rv rd'
theorem aBv (l : List Int) (v fv : AV) (p : Nat → Bool) (hv : SlI w0 h v l) (hn : l.length < 1000000) (hf : ∀ (j : Nat) (hj : j < l.length) L,aQ Try.prog w0 fv [.int .i64 j,.int .i64 l[j]] (h ++ L) (.bool (p j)) (h ++ L)) :
 aM Try.prog w0 69 [v,fv] h (.bool ((List.range l.length).all p)) h := by
 have := xN (l.map fun z => [AV.int .i64 z]) v fv p hv (by intro r hr; obtain ⟨z,_,rfl⟩ := List.mem_map.1 hr; rfl) (by simpa using hn) fun j x hx _ L => by
  have hj : j < l.length := by have := aK hx; simpa using this
  have : x = .int .i64 l[j] := by simpa [hj] using hx.symm
  subst this
  exact hf j hj L
 rwa [List.length_map] at this
section
variable {d : aP} {v : cF} {m : AV} {i ib : Nat}
theorem aA5 (j x : Int) (hd : h[i]? = some (some (.row (aS v ++ [m])))) (hR : gD w0 h d v) (hi : h[ib]? = some (some (.row [.ptr (.own i 0)]))) : aM Try.prog w0 130 [.int .i64 j,.int .i64 x,.ptr (.own ib 0)] h (.bool (bE d.places.length x)) h := by
 refine aI aJ aE7 aIQ aIP (Nat.le_of_ble_eq_true rfl) (by simp [AV.bdd,AV.bdds]) fun hb ha => aR ?_
 have l1 := hR.lens.1
 have n1 := hR.l1
 have bi : ∀ L,(h ++ L)[ib]? = some (some (.row [.ptr (.own i 0)])) := fun L => aA hi
 have bd : ∀ L,(h ++ L)[i]? = some (some (.row (aS v ++ [m]))) := fun L => aA hd
 simp only [aS,List.cons_append,List.nil_append] at bd
 simp only [go_sem,mf130,bi,bd,l1]
 refine ⟨(by unfold I64; omega),?_⟩
 refine aD (iX _ _ _).v ?_
 simp only [go_sem]
 rfl
theorem aFE (j x : Int) : aM Try.prog w0 131 [.int .i64 j,.int .i64 x] h (.bool (inB x 0 5)) h := by
 refine aI aJ aE6 aIO aIN (Nat.le_of_ble_eq_true rfl) (by simp [AV.bdd,AV.bdds]) fun hb ha => aR ?_
 simp only [go_sem,mf131]
 refine aD (iX _ _ _).v ?_
 simp only [go_sem]
theorem yG (s : aE) (sv : StV) (hd : h[i]? = some (some (.row (aS v ++ [m])))) (hR : gD w0 h d v) (hS : StS w0 h s sv) (m1 : s.planes.length < 1000000) (m2 : s.legs.length < 1000000) (m3 : s.people.length < 1000000) : aM Try.prog w0 90 [.ptr (.own i 0),.agg (stC sv)] h (.bool (cY d s)) h := by
 refine aI aJ aHB mf90_b mf90_g (Nat.le_of_ble_eq_true rfl) (by simp [AV.bdd,AV.bdds]) fun hb ha => aR ?_
 obtain ⟨l1,l2,l3,l4,l5⟩ := hR.lens
 obtain ⟨k1,k2,k3⟩ := hS.lens
 obtain ⟨q1,q2,q3⟩ := hS.ones
 have hil := aK hd
 have bd : ∀ L,(h ++ L)[i]? = some (some (.row (aS v ++ [m]))) := fun L => aA hd
 have e1 : ∀ a b : Nat,((a : Int) == b) = decide (a = b) := fun a b => by rw [Bool.eq_iff_iff]; simp; omega
 simp only [aS,List.cons_append,List.nil_append] at bd
 simp only [go_sem,mf90,stC,q1,q2,q3,bd,k1,k2,k3,l3,l4,e1]
 refine ⟨fun e2 => ⟨fun e3 => ⟨fun e4 => ?_,fun e4 => by simp [cY,e4]⟩,fun e3 => by simp [cY,e3]⟩,fun e2 => by simp [cY,e2]⟩
 obtain ⟨G,eG⟩ : ∃ G,G = h ++ [some (Blk.row [AV.ptr (Pl.own i 0)]),some (Blk.row [sv.pl,sv.le,sv.pe])] := ⟨_,rfl⟩
 have sG : aB h G := eG ▸ aB.refl.app
 have gi : G[h.length]? = some (some (.row [.ptr (.own i 0)])) := by rw [eG]; simp
 have gs : G[h.length + 1]? = some (some (.row [sv.pl,sv.le,sv.pe])) := by rw [eG]; simp
 have gsL : ∀ L,(G ++ L)[h.length + 1]? = some (some (.row [sv.pl,sv.le,sv.pe])) := fun L => aA gs
 rw [← eG]
 have hpl : ∀ L (l : List Int) (x : AV),SlI w0 h x l → l.length < 1000000 → aM Try.prog w0 69 [x,AV.fn (Fn.func 130) [] [AV.ptr (Pl.own h.length 0)]] (G ++ L) (.bool (l.all (bE d.places.length))) (G ++ L) := fun L l x hx hl => by
  rw [← cE (x := 0)]
  refine aBv l x _ _ (Sl.sub hx (sG.trans aB.refl.app)) hl fun j hj L2 => ?_
  rw [aH hj]
  exact (aA5 (i := i) (v := v) (m := m) j l[j] ((sG.app.app).2 _ _ hd) (hR.sub (sG.app.app)) (by rw [List.append_assoc]; exact aA gi)).vc (first := []) (capt := [_])
 have hpl0 := fun l x => hpl [] l x
 simp only [List.append_nil] at hpl0
 refine dP (hpl0 s.planes sv.pl hS.planes.s m1).v ?_
 cases f1 : s.planes.all (bE d.places.length) with
 | false => simp only [go_sem]; exact ⟨by simp [cY,f1],_,eG⟩
 | true =>
 simp only [go_sem,gs,gsL]
 refine dP (hpl0 s.people sv.pe hS.people.s m3).v ?_
 cases f2 : s.people.all (bE d.places.length) with
 | false => simp only [go_sem]; exact ⟨by simp [cY,f2],_,eG⟩
 | true =>
 simp only [go_sem,gs,gsL]
 have leg : aM Try.prog w0 69 [sv.le,AV.fn (Fn.func 131) [] []] G (.bool (s.legs.all fun x => inB x 0 5)) G := by
  rw [← cE (x := 0)]
  refine aBv s.legs sv.le _ _ (Sl.sub hS.legs.s sG) m2 fun j hj L2 => ?_
  rw [aH hj]
  exact (aFE j s.legs[j]).vc (first := []) (capt := [])
 refine dP leg.v ?_
 simp only [go_sem]
 exact ⟨by simp [cY,e2,e3,e4,f1,f2],_,eG⟩
end
section
variable {d : aP} {v : cF} {m : AV} {i ib ix : Nat}
theorem aHv (x : aF) (pv : AV) (k : Nat) (hk : k < x.people.length) (hd : h[i]? = some (some (.row (aS v ++ [m])))) (hR : gD w0 h d v) (hi : h[ib]? = some (some (.row [.ptr (.own i 0)]))) (hx : h[ix]? = some (some (.row [.int .i64 x.to,pv]))) (hp : SlI w0 h pv x.people) (hl : x.people.length < 1000000) :
 aM Try.prog w0 135 [.int .i64 k,.int .i64 x.people[k],.ptr (.own ib 0),.ptr (.own ix 0)] h (.bool (pkB d.people.length x.people k)) h := by
 refine aI aJ aE3 aII aIH (Nat.le_of_ble_eq_true rfl) (by simp [AV.bdd,AV.bdds]) fun hb ha => aR ?_
 obtain ⟨l1,l2,l3,l4,l5⟩ := hR.lens
 have n4 := hR.l4
 have bi : ∀ L,(h ++ L)[ib]? = some (some (.row [.ptr (.own i 0)])) := fun L => aA hi
 have bx : ∀ L,(h ++ L)[ix]? = some (some (.row [.int .i64 x.to,pv])) := fun L => aA hx
 have bd : ∀ L,(h ++ L)[i]? = some (some (.row (aS v ++ [m]))) := fun L => aA hd
 simp only [aS,List.cons_append,List.nil_append] at bd
 have bi' := bi []
 have bx' := bx []
 have bd' := bd []
 simp only [List.append_nil] at bi' bx' bd'
 have hpk : pkB d.people.length x.people k = (inB x.people[k] 0 ((d.people.length : Int) - 1) && (decide (k = 0) || decide (x.people.getD (k - 1) 0 < x.people[k]))) := by rw [pkB,aH hk]
 rw [hpk]
 simp only [go_sem,mf135,bi,bd,bx,l4]
 refine ⟨(by unfold I64; omega),?_⟩
 refine aD (iX _ _ _).v ?_
 cases e1 : inB x.people[k] 0 ((d.people.length : Int) - 1) with
 | false => simp only [go_sem]; rfl
 | true =>
 rcases k with _ | k
 · simp only [go_sem]
   exact ⟨fun e => absurd rfl e,fun _ => rfl⟩
 have hk2 : k < x.people.length := by omega
 obtain ⟨a,a1,a2,a3⟩ := SlI.at_ hp hk2
 have ek : (((k + 1 : Nat) : Int) - 1) = (k : Int) := by omega
 have c0 : (((k + 1 : Nat) : Int) == 0) = false := by simp; omega
 simp only [go_sem,bi',bd',bx',bi,bd,bx,ek,a1,a2,a3,c0]
 refine ⟨(by unfold I64; omega),?_⟩
 rw [Nat.add_sub_cancel,aH hk2,Bool.false_or]
theorem zS (j : Nat) (x : aF) (pv : AV) (hd : h[i]? = some (some (.row (aS v ++ [m])))) (hR : gD w0 h d v) (hi : h[ib]? = some (some (.row [.ptr (.own i 0)]))) (hp : SlI w0 h pv x.people) (hl : x.people.length < 1000000) :
 aM Try.prog w0 134 [.int .i64 j,.agg [.int .i64 x.to,pv],.ptr (.own ib 0)] h (.bool (flB d x)) h := by
 refine aI aJ aE4 aIK aIJ (Nat.le_of_ble_eq_true rfl) (by simp [AV.bdd,AV.bdds]) fun hb ha => aR ?_
 obtain ⟨l1,l2,l3,l4,l5⟩ := hR.lens
 have n1 := hR.l1
 have k1 := (SlI.use hp).1
 have o1 := hp.one.1
 obtain ⟨G,eG⟩ : ∃ G,G = h ++ [some (Blk.row [.int .i64 x.to,pv])] := ⟨_,rfl⟩
 have sG : aB h G := eG ▸ aB.refl.app
 have gx : G[h.length]? = some (some (.row [.int .i64 x.to,pv])) := by rw [eG]; simp
 have gi := sG.2 _ _ hi
 have gd := sG.2 _ _ hd
 simp only [aS,List.cons_append,List.nil_append] at gd
 have bi : ∀ L,(G ++ L)[ib]? = some (some (.row [.ptr (.own i 0)])) := fun L => aA gi
 have bx : ∀ L,(G ++ L)[h.length]? = some (some (.row [.int .i64 x.to,pv])) := fun L => aA gx
 have bd : ∀ L,(G ++ L)[i]? = some (some (.row [v.pl,v.ln,v.pn,v.pe,v.we,m])) := fun L => aA gd
 simp only [go_sem,mf134,o1]
 rw [← eG]
 refine aD (aBv x.people pv (.fn (.func 135) [] [.ptr (.own ib 0),.ptr (.own h.length 0)]) (pkB d.people.length x.people) (Sl.sub hp sG) hl fun k hk L => ?_).v ?_
 · exact (aHv (i := i) (v := v) (m := m) x pv k hk (aA gd) (hR.sub sG.app) (bi L) (bx L) (Sl.sub hp sG.app) hl).vc (first := []) (capt := [_,_])
 simp only [go_sem,gi,gd,gx,bi,bx,bd,l1]
 refine ⟨(by unfold I64; omega),?_⟩
 refine dP (iX _ _ _).v ?_
 cases f1 : inB x.to (-1) ((d.places.length : Int) - 1) with
 | false => simp only [go_sem]; exact ⟨by simp [flB,f1],_,eG⟩
 | true =>
 cases f2 : (List.range x.people.length).all (pkB d.people.length x.people) with
 | false => simp only [go_sem]; exact ⟨by simp only [flB,f1,f2,Bool.and_false],_,eG⟩
 | true =>
 have c5 : ∀ a : Nat,((a : Int) == 0) = decide (a = 0) := fun a => by rw [Bool.eq_iff_iff]; simp
 have hf : flB d x = (decide (0 ≤ x.to) || decide (x.people.length = 0)) := by rw [flB,f1,f2,Bool.true_and,Bool.and_true]
 rw [hf]
 by_cases t0 : 0 ≤ x.to
 · simp only [go_sem,gx,bx,t0,k1,c5]
   exact ⟨rfl,_,eG⟩
 · simp only [go_sem,gx,bx,t0,k1,c5]
   exact ⟨rfl,_,eG⟩
theorem aD9 (u : List aF) (uv : AV) (hd : h[i]? = some (some (.row (aS v ++ [m])))) (hR : gD w0 h d v) (hU : UnV w0 h uv u) (hn : u.length < 1000000) (hp : ∀ x ∈ u,x.people.length < 1000000) : aM Try.prog w0 93 [.ptr (.own i 0),uv] h (.bool (jX d u)) h := by
 refine aI aJ aHz mf93_b mf93_g (Nat.le_of_ble_eq_true rfl) (by simp [AV.bdd,AV.bdds]) fun hb ha => aR ?_
 obtain ⟨l1,l2,l3,l4,l5⟩ := hR.lens
 have lu := NS.len hU
 have bd : ∀ L,(h ++ L)[i]? = some (some (.row (aS v ++ [m]))) := fun L => aA hd
 simp only [aS,List.cons_append,List.nil_append] at bd
 have hil := aK hd
 have c5 : ∀ a b : Nat,((a : Int) == b) = decide (a = b) := fun a b => by rw [Bool.eq_iff_iff]; simp; omega
 simp only [go_sem,mf93,bd,l3,lu,c5]
 refine ⟨fun e1 => ?_,fun e1 => by simp only [jX,decide_eq_false e1,Bool.and_false]⟩
 obtain ⟨rows,r1,r2,r3⟩ := hU
 have hrow : ∀ j c,rows[j]? = some c → ∃ (hj : j < u.length) (pv : AV),c = [.int .i64 u[j].to,pv] ∧ SlI w0 h pv u[j].people := fun j c hc => by
  have hj : j < u.length := by have := aK hc; omega
  obtain ⟨pv,rfl,p3⟩ := r3 j _ c (List.getElem?_eq_getElem hj) hc
  exact ⟨hj,pv,rfl,p3⟩
 have key : (List.range rows.length).all (fun j => flB d (u.getD j ⟨-1,[]⟩)) = u.all (flB d) := by rw [r1,cE]
 have hu : jX d u = u.all (flB d) := by simp only [jX,decide_eq_true e1,Bool.and_true]
 rw [hu,← key]
 refine aD (aGo rows uv (.fn (.func 134) [] [.ptr (.own h.length 0)]) (fun j => flB d (u.getD j ⟨-1,[]⟩)) (r2.sub aB.refl.app) ?_ (by omega) fun j c hc _ L => ?_).v ?_
 · intro c hc
   obtain ⟨j,hj,rfl⟩ := List.getElem_of_mem hc
   obtain ⟨_,pv,e,p3⟩ := hrow j _ (List.getElem?_eq_getElem hj)
   rw [e]
   simp only [List.all_cons,List.all_nil,p3.one.1,Bool.and_true]; rfl
 · obtain ⟨hj,pv,rfl,p3⟩ := hrow j c hc
   rw [aH hj]
   exact (zS (i := i) (v := v) (m := m) j u[j] pv (by rw [List.append_assoc]; exact aA hd) (hR.sub aB.refl.app.app) (aA (by simp)) (Sl.sub p3 aB.refl.app.app) (hp _ (List.getElem_mem hj))).vc (first := []) (capt := [_])
 simp only [go_sem]
end
theorem aKm (d : aP) (v : cF) (hR : gD w0 h d v) : aM Try.prog w0 52 [.agg (aS v)] h (.int .i64 (if dM d then 0 else 2)) h := by
 refine aI aJ aH0 mf52_b mf52_g (Nat.le_of_ble_eq_true rfl) (by simp [AV.bdd,AV.bdds]) fun hb ha => aR ?_
 obtain ⟨o1,o2,o3,o4,o5⟩ := hR.ones
 simp only [go_sem,mf52,aS,o1,o2,o3,o4,o5]
 refine aD (nL d v hR.app).v ?_
 cases dM d <;> simp only [go_sem]
end Go.Proofs.Ab
namespace Go.Proofs.Ab
open Go Go.Proofs
variable {w0 : World} {h : Heap}
attribute [local irreducible] ACall aV aW aM aQ rvC rdC lp rg dr ex un rv rd'
theorem qG {d : aP} {s : aE} (e : cY d s = true) : hE d s ∧ ∀ x ∈ s.people,0 ≤ x ∧ x < d.places.length := by
 simp only [cY,Bool.and_eq_true,decide_eq_true_eq,List.all_eq_true] at e
 obtain ⟨e1,e2,e3,e4,e5,e6⟩ := e
 refine ⟨⟨e1,e2,e3,fun x hx => jJ.1 (e4 x hx),fun x hx => ?_⟩,fun x hx => jJ.1 (e5 x hx)⟩
 have := e6 x hx
 simp only [inB,Bool.and_eq_true,decide_eq_true_eq] at this
 omega
theorem aCi {d : aP} {v : cF} {m : AV} {i : Nat} (e : dM d = true) (hd : h[i]? = some (some (.row (aS v ++ [m])))) (hR : gD w0 h d v) : nV w0 h d v m i := by
 have dg := qX e
 exact ⟨hd,hR,dg.pe,dg.pn,fun p hp => by have := (dg.people p hp).2.2.1; omega⟩
theorem aF1 (s : aE) (sv : StV) (hs : StS w0 h s sv) (m1 : s.planes.length < 1000000) (m2 : s.legs.length < 1000000) (m3 : s.people.length < 1000000) : ACall Try.prog w0 95 [.agg (stC sv)] h fun y h' => aB h h' ∧ ∃ nv,y = .agg (stC nv) ∧ xR w0 h' h.length s nv := by
 refine bB aJ aHx mf95_b mf95_g (Nat.le_of_ble_eq_true rfl) fun hb ha => aR ?_
 obtain ⟨o1,o2,o3⟩ := hs.ones
 simp only [go_sem,mf95,stC,o1,o2,o3]
 obtain ⟨G,eG⟩ : ∃ G,G = h ++ [some (Blk.row [sv.pl,sv.le,sv.pe]),some (Blk.row [AV.nilS,AV.nilS,AV.nilS])] := ⟨_,rfl⟩
 have sG : aB h G := eG ▸ aB.refl.app
 have hk : G[h.length]? = some (some (.row [sv.pl,sv.le,sv.pe])) := by rw [eG]; simp
 have hn : G[h.length + 1]? = some (some (.row [.nilS,.nilS,.nilS])) := by rw [eG]; simp
 have hkL : ∀ L,(G ++ L)[h.length]? = some (some (.row [sv.pl,sv.le,sv.pe])) := fun L => aA hk
 rw [← eG]
 refine mS aJ [0,1,3,4,6,7,2,5,8,9,10] [o_ 3 (.addr (.t 1) 0),o_ 4 (l_ 3),o_ 6 (.addr (.t 1) 1),o_ 7 (l_ 6),o_ 9 (.addr (.t 1) 2),o_ 10 (l_ 9),.call (some 5) none (f_ 127) [(.t 4)]] [([(3,o_ 7 (l_ 6)),(5,o_ 10 (l_ 9))],[.call (some 8) none (f_ 127) [(.t 7)]]),([(5,o_ 10 (l_ 9))],[.call (some 11) none (f_ 127) [(.t 10)],o_ 12 (.build [.nilS,.nilS,.nilS] [(0,1,(.t 5)),(1,1,(.t 8)),(2,1,(.t 11))]),.op none none (.store (.t 2) (.t 12) 3)])] rfl rfl (by kernel_rfl) ?_
 simp only [go_sem,hk,hkL]
 refine aU (ACall.vc (first := []) (args := [_]) (lV s.planes sv.pl (hs.planes.sub sG) m1)) ?_
 rintro y1 H1 ⟨s1,w1⟩
 have k1 := s1.2 _ _ hk
 have k1L : ∀ L,(H1 ++ L)[h.length]? = some (some (.row [sv.pl,sv.le,sv.pe])) := fun L => aA k1
 simp only [go_sem,k1,k1L]
 refine aU (ACall.vc (first := []) (args := [_]) (lV s.legs sv.le (hs.legs.sub (sG.trans s1)) m2)) ?_
 rintro y2 H2 ⟨s2,w2⟩
 have k2 := s2.2 _ _ k1
 have k2L : ∀ L,(H2 ++ L)[h.length]? = some (some (.row [sv.pl,sv.le,sv.pe])) := fun L => aA k2
 simp only [go_sem,k2,k2L]
 refine aU (ACall.vc (first := []) (args := [_]) (lV s.people sv.pe (hs.people.sub (sG.trans (s1.trans s2))) m3)) ?_
 rintro y3 H3 ⟨s3,w3⟩
 have c1 := w1.o.s.one
 have c2 := w2.o.s.one
 have c3 := w3.o.s.one
 have k3 := (s1.trans (s2.trans s3)).2 _ _ hn
 have k3L : ∀ L,(H3 ++ L)[h.length + 1]? = some (some (.row [.nilS,.nilS,.nilS])) := fun L => aA k3
 have l3 := aK k3
 have z1 : (H3.set (h.length + 1) (some (Blk.row [y1,y2,y3])))[h.length + 1]? = some (some (Blk.row [y1,y2,y3])) := List.getElem?_set_self l3
 simp only [go_sem,c1.1,c1.2,c2.1,c2.2,c3.1,c3.2,k3,k3L,l3,z1]
 have sH : aB h (H3.set (h.length + 1) (some (Blk.row [y1,y2,y3]))) := (sG.trans (s1.trans (s2.trans s3))).setR (by omega)
 have gl : G.length = h.length + 2 := by rw [eG]; simp
 obtain ⟨d1,i1,a1⟩ := w1.i
 obtain ⟨d2,i2,a2⟩ := w2.i
 obtain ⟨d3,i3,a3⟩ := w3.i
 have n1 := s1.1
 have n2 := s2.1
 have n3 := sG.1
 exact ⟨sH,⟨_,_,_⟩,rfl,((a1.sub (s2.trans s3)).set (c' := [y1,y2,y3]) k3 rfl fun e => by have := i1 e; omega).toL (by omega),((a2.sub s3).set (c' := [y1,y2,y3]) k3 rfl fun e => by have := i2 e; omega).toL (by omega),(a3.set (c' := [y1,y2,y3]) k3 rfl fun e => by have := i3 e; omega).toL (by omega)⟩
theorem iB.set {H : Heap} {N k : Nat} {y : AV} {l : List Int} {c c' : List AV} (a : iB w0 H N y l) (hk : H[k]? = some (some (.row c))) (hc : c'.length = c.length) (hN : k < N) : iB w0 (H.set k (some (.row c'))) N y l := by
 obtain ⟨id,i1,a1⟩ := a.i
 exact (a1.set (c' := c') hk hc fun e => by have := i1 e; omega).toL (Nat.le_refl _)
theorem xR.set {H : Heap} {N k : Nat} {s : aE} {sv : StV} {c c' : List AV} (a : xR w0 H N s sv) (hk : H[k]? = some (some (.row c))) (hc : c'.length = c.length) (hN : k < N) : xR w0 (H.set k (some (.row c'))) N s sv := ⟨a.p.set hk hc hN,a.l.set hk hc hN,a.e.set hk hc hN⟩
theorem xR.here {H : Heap} {N : Nat} {s : aE} {sv : StV} (a : xR w0 H N s sv) : StS w0 H s sv := ⟨a.p.o,a.l.o,a.e.o⟩
theorem Cost_c (d : aP) (v : cF) (s : aE) (sv : StV) (hR : gD w0 h d v) (hS : StS w0 h s sv) (m1 : s.planes.length < 1000000) (m2 : s.legs.length < 1000000) (m3 : s.people.length < 1000000) :
 aM Try.prog w0 39 [.agg (aS v),.agg (stC sv)] h (.tup [.int .i64 (if (dM d && cY d s) = true then zZ d s else 0),.int .i64 (if (dM d && cY d s) = true then 0 else 2)]) h := by
 refine aI aJ aH7 mf39_b mf39_g (Nat.le_of_ble_eq_true rfl) (by simp [AV.bdd,AV.bdds]) fun hb ha => aR ?_
 obtain ⟨o1,o2,o3,o4,o5⟩ := hR.ones
 obtain ⟨q1,q2,q3⟩ := hS.ones
 simp only [go_sem,mf39,aS,stC,o1,o2,o3,o4,o5,q1,q2,q3]
 obtain ⟨G,eG⟩ : ∃ G,G = h ++ [some (Blk.row [v.pl,v.ln,v.pn,v.pe,v.we]),some (Blk.row [sv.pl,sv.le,sv.pe]),some (Blk.row [v.pl,v.ln,v.pn,v.pe,v.we,AV.nilM])] := ⟨_,rfl⟩
 have sG : aB h G := eG ▸ aB.refl.app
 have g1 : G[h.length + 1]? = some (some (.row [sv.pl,sv.le,sv.pe])) := by rw [eG]; simp
 have g2 : G[h.length + 2]? = some (some (.row (aS v ++ [AV.nilM]))) := by rw [eG]; simp [aS]
 have b1 : ∀ L,(G ++ L)[h.length + 1]? = some (some (.row [sv.pl,sv.le,sv.pe])) := fun L => aA g1
 rw [← eG]
 refine aD (nL d v (hR.sub sG)).v ?_
 cases e1 : dM d with
 | false => simp only [go_sem]; exact ⟨rfl,_,eG⟩
 | true =>
 simp only [go_sem,g1,b1,q1,q2,q3]
 refine aD (yG (m := .nilM) (i := h.length + 2) s sv g2 (hR.sub sG) (hS.sub sG) m1 m2 m3).v ?_
 cases e2 : cY d s with
 | false => simp only [go_sem]; exact ⟨rfl,_,eG⟩
 | true =>
 have dg := qX e1
 obtain ⟨sk,pat⟩ := qG e2
 simp only [go_sem,g1,b1,q1,q2,q3]
 refine aD (aF0 d v .nilM (h.length + 2) s sv (aCi e1 g2 (hR.sub sG)) (hS.sub sG) sk (mZ dg s) (nH dg s) pat).v ?_
 simp only [go_sem]
 exact ⟨rfl,_,eG⟩
def iU (d : aP) (s : aE) (op : Int) (u : List aF) : Bool := dM d && (cY d s && (kV d.places.length op && jX d u))
def uN (d : aP) (s : aE) (op : Int) (u : List aF) : aE × Int × Int × Int := if iU d s op u = true then ((dG d s op u).1,(dG d s op u).2.1,(dG d s op u).2.2,0) else (⟨[],[],[]⟩,0,0,2)
def FlyR (w0 : World) (h : Heap) (d : aP) (s : aE) (op : Int) (u : List aF) (y : AV) (h' : Heap) : Prop :=
 aB h h' ∧ ∃ nv,y = .tup [.agg (stC nv),.int .i64 (uN d s op u).2.1,.int .i64 (uN d s op u).2.2.1,.int .i64 (uN d s op u).2.2.2] ∧ StS w0 h' (uN d s op u).1 nv
theorem aFS (to : Int) (p : List Int) : ∀ l : List Int,(p.foldl (fun l n => l.set n.toNat to) l).length = l.length := by
 induction p with
 | nil => intro l; rfl
 | cons a p ih => intro l; rw [List.foldl_cons,ih,List.length_set]
theorem vJ (n : aE) (i : Nat) (x : aF) : (gU n i x).planes.length = n.planes.length ∧ (gU n i x).legs.length = n.legs.length ∧ (gU n i x).people.length = n.people.length :=
 ⟨List.length_set,List.length_set,aFS _ _ _⟩
theorem tS {d : aP} {s : aE} {op : Int} : ∀ (u : List aF) (i : Nat) (n : aE) (g : List Bool) (n' : aE),lQ d s op u i n g = .ok n' → n'.planes.length = n.planes.length ∧ n'.legs.length = n.legs.length ∧ n'.people.length = n.people.length
 | [],i,n,g,n',e => by cases e; exact ⟨rfl,rfl,rfl⟩
 | x :: u,i,n,g,n',e => by
  rw [lQ] at e
  split at e
  · exact tS u _ n g n' e
  · split at e
    · cases e
    · obtain ⟨a,b,c⟩ := tS u _ _ _ n' e
      obtain ⟨a',b',c'⟩ := vJ n i x
      exact ⟨a.trans a',b.trans b',c.trans c'⟩
theorem zP (d : aP) (s : aE) (op : Int) (u : List aF) : (dG d s op u).1.planes.length = s.planes.length ∧ (dG d s op u).1.legs.length = s.legs.length ∧ (dG d s op u).1.people.length = s.people.length := by
 rw [dG]
 cases e : lQ d s op u 0 s [false,false,false,false] with
 | error p => exact ⟨rfl,rfl,rfl⟩
 | ok n =>
  have := tS u 0 s _ n e
  simp only
  split
  · exact ⟨rfl,rfl,rfl⟩
  · exact this
theorem Fly_c (d : aP) (v : cF) (s : aE) (sv : StV) (op : Int) (u : List aF) (uv : AV) (hR : gD w0 h d v) (hS : StS w0 h s sv) (hU : UnV w0 h uv u) (m1 : s.planes.length < 1000000) (m2 : s.legs.length < 1000000) (m3 : s.people.length < 1000000) (hn : u.length < 1000000) (hp : ∀ x ∈ u,x.people.length < 1000000) :
 ACall Try.prog w0 48 [.agg (aS v),.agg (stC sv),.int .i64 op,uv] h (FlyR w0 h d s op u) := by
 refine bB aJ aH4 mf48_b mf48_g (Nat.le_of_ble_eq_true rfl) fun hb ha => aR ?_
 obtain ⟨o1,o2,o3,o4,o5⟩ := hR.ones
 obtain ⟨q1,q2,q3⟩ := hS.ones
 obtain ⟨l1,l2,l3,l4,l5⟩ := hR.lens
 simp only [go_sem,mf48,aS,stC,o1,o2,o3,o4,o5,q1,q2,q3]
 obtain ⟨G,eG⟩ : ∃ G,G = h ++ [some (Blk.row [v.pl,v.ln,v.pn,v.pe,v.we]),some (Blk.row [sv.pl,sv.le,sv.pe]),some (Blk.row [AV.nilS,AV.nilS,AV.nilS]),some (Blk.row [v.pl,v.ln,v.pn,v.pe,v.we,AV.nilM])] := ⟨_,rfl⟩
 have sG : aB h G := eG ▸ aB.refl.app
 have g0 : G[h.length]? = some (some (.row [v.pl,v.ln,v.pn,v.pe,v.we])) := by rw [eG]; simp
 have g1 : G[h.length + 1]? = some (some (.row [sv.pl,sv.le,sv.pe])) := by rw [eG]; simp
 have g2 : G[h.length + 2]? = some (some (.row [.nilS,.nilS,.nilS])) := by rw [eG]; simp
 have g3 : G[h.length + 3]? = some (some (.row (aS v ++ [AV.nilM]))) := by rw [eG]; simp [aS]
 have b0 : ∀ L,(G ++ L)[h.length]? = some (some (.row [v.pl,v.ln,v.pn,v.pe,v.we])) := fun L => aA g0
 have b1 : ∀ L,(G ++ L)[h.length + 1]? = some (some (.row [sv.pl,sv.le,sv.pe])) := fun L => aA g1
 have b2 : ∀ L,(G ++ L)[h.length + 2]? = some (some (.row [.nilS,.nilS,.nilS])) := fun L => aA g2
 have hRG := hR.sub sG
 have hSG := hS.sub sG
 have hUG := hU.sub sG
 have gl : G.length = h.length + 4 := by rw [eG]; simp
 rw [← eG]
 refine aD (nL d v hRG).v ?_
 have hno : ∀ (x : Option Blk),iU d s op u = false → FlyR w0 h d s op u (.tup [.agg [.nilS,.nilS,.nilS],.int .i64 0,.int .i64 0,.int .i64 2]) (G.set (h.length + 2) x) := fun x e => by
  refine ⟨sG.setR (by omega),⟨.nilS,.nilS,.nilS⟩,?_⟩
  rw [uN,e,if_neg (by simp)]
  refine ⟨rfl,?_,?_,?_⟩ <;> exact ⟨.inl ⟨rfl,rfl⟩,fun _ => rfl⟩
 have z2 : ∀ x,(G.set (h.length + 2) (some (Blk.row x)))[h.length + 2]? = some (some (Blk.row x)) := fun x => List.getElem?_set_self (by omega)
 cases e1 : dM d with
 | false => simp only [go_sem,g2,b2,z2]; exact hno _ (by simp [iU,e1])
 | true =>
 simp only [go_sem,g1,b1,q1,q2,q3]
 refine aD (yG (m := .nilM) (i := h.length + 3) s sv g3 hRG hSG m1 m2 m3).v ?_
 cases e2 : cY d s with
 | false => simp only [go_sem,g2,b2,z2]; exact hno _ (by simp [iU,e2])
 | true =>
 have dg := qX e1
 obtain ⟨sk,pat⟩ := qG e2
 have hs := jR (n := d.places.length) (by have := dg.p1; omega)
 simp only [go_sem,g0,b0,l1,hs]
 have hp50 : (2 ^ d.places.length : Nat) ≤ 2 ^ 50 := Nat.pow_le_pow_right (by omega) (by have := dg.p1; omega)
 have hp1 : 1 ≤ 2 ^ d.places.length := Nat.one_le_two_pow
 refine ⟨by unfold I64; omega,?_⟩
 refine aD (iX _ _ _).v ?_
 rw [show inB op 0 (((2 ^ d.places.length : Nat) : Int) - 1) = kV d.places.length op from rfl]
 cases e3 : kV d.places.length op with
 | false => simp only [go_sem,g2,b2,z2]; exact hno _ (by simp [iU,e3])
 | true =>
 simp only [go_sem]
 refine aD (aD9 (m := .nilM) (i := h.length + 3) u uv g3 hRG hUG hn hp).v ?_
 cases e4 : jX d u with
 | false => simp only [go_sem,g2,b2,z2]; exact hno _ (by simp [iU,e4])
 | true =>
 have uk := (aBI e4).ok dg.pe
 have ho : 0 ≤ op ∧ op < 2 ^ 50 := by
  simp only [kV,inB,Bool.and_eq_true,decide_eq_true_eq] at e3
  omega
 simp only [go_sem,g1,b1,q1,q2,q3]
 refine aU (ACall.vc (first := []) (args := [_,_,_,_]) (fly_c d v .nilM (h.length + 3) s sv op u uv (aCi e1 g3 hRG) hSG sk hUG uk ho.1 ho.2).toA) ?_
 rintro y H1 ⟨s1,nv,rfl,hnv,_⟩
 obtain ⟨r1,r2,r3⟩ := hnv.ones
 simp only [go_sem,stC,r1,r2,r3]
 obtain ⟨r,er⟩ : ∃ r,r = (dG d s op u).2.1 := ⟨_,rfl⟩
 obtain ⟨p,ep⟩ : ∃ p,p = (dG d s op u).2.2 := ⟨_,rfl⟩
 rw [← er,← ep]
 obtain ⟨H2,eH2⟩ : ∃ H2,H2 = H1 ++ [some (Blk.row [nv.pl,nv.le,nv.pe]),some (Blk.row [AV.int .i64 r,AV.int .i64 p])] := ⟨_,rfl⟩
 have s2 : aB H1 H2 := eH2 ▸ aB.refl.app
 have h2l : H2.length = H1.length + 2 := by rw [eH2]; simp
 have t1 : H2[H1.length]? = some (some (.row [nv.pl,nv.le,nv.pe])) := by rw [eH2]; simp
 have t2 : H2[H1.length + 1]? = some (some (.row [.int .i64 r,.int .i64 p])) := by rw [eH2]; simp
 have t1L : ∀ L,(H2 ++ L)[H1.length]? = some (some (.row [nv.pl,nv.le,nv.pe])) := fun L => aA t1
 have t2L : ∀ L,(H2 ++ L)[H1.length + 1]? = some (some (.row [.int .i64 r,.int .i64 p])) := fun L => aA t2
 have t3 := (s1.trans s2).2 _ _ g2
 rw [← eH2]
 have lens := zP d s op u
 refine mS aJ [0,2,3,4,5,1,6,7,8,9] [o_ 52 (.load (.t 13) (some 3)),o_ 54 (.addr (.t 14) 0),o_ 55 (l_ 54),o_ 56 (.addr (.t 14) 1),o_ 57 (l_ 56),.call (some 53) none (f_ 95) [(.t 52)]] [([(2,o_ 55 (l_ 54)),(4,o_ 57 (l_ 56))],[.op none none (.store (.t 8) (.t 53) 3)]),([(2,o_ 55 (l_ 54)),(4,o_ 57 (l_ 56))],[o_ 9 (m_ 55),o_ 10 (m_ 57),o_ 11 (.mov (i_ 0))])] rfl rfl (by kernel_rfl) ?_
 simp only [go_sem,t1,t1L,t2,t2L,r1,r2,r3]
 refine aU (ACall.vc (first := []) (args := [_]) (aF1 (dG d s op u).1 nv (hnv.sub s2) (by omega) (by omega) (by omega))) ?_
 rintro y H3 ⟨s3,nw,rfl,ow⟩
 obtain ⟨x1,x2,x3⟩ := ow.here.ones
 have v1 := s3.2 _ _ t1
 have v2 := s3.2 _ _ t2
 have v3 := s3.2 _ _ t3
 have v1L : ∀ L,(H3 ++ L)[H1.length]? = some (some (.row [nv.pl,nv.le,nv.pe])) := fun L => aA v1
 have v2L : ∀ L,(H3 ++ L)[H1.length + 1]? = some (some (.row [.int .i64 r,.int .i64 p])) := fun L => aA v2
 have v3L : ∀ L,(H3 ++ L)[h.length + 2]? = some (some (.row [.nilS,.nilS,.nilS])) := fun L => aA v3
 have z3 : ∀ x,(H3.set (h.length + 2) (some (Blk.row x)))[h.length + 2]? = some (some (Blk.row x)) := fun x => List.getElem?_set_self (aK v3)
 have n1 := s1.1
 have z4 : ∀ x,(H3.set (h.length + 2) x)[H1.length + 1]? = some (some (.row [.int .i64 r,.int .i64 p])) := fun x => by rw [List.getElem?_set_ne (by omega)]; exact v2
 simp only [go_sem,v1,v1L,v2,v2L,v3,v3L,x1,x2,x3,stC,z3,z4]
 have sub3 : aB h (H3.set (h.length + 2) (some (Blk.row [nw.pl,nw.le,nw.pe]))) := (sG.trans (s1.trans (s2.trans s3))).setR (by omega)
 have n2 := s2.1
 have hok : iU d s op u = true := by simp [iU,e1,e2,e3,e4]
 refine ⟨sub3,nw,?_⟩
 rw [uN,hok,if_pos rfl,← er,← ep]
 exact ⟨rfl,(ow.set v3 (c' := [nw.pl,nw.le,nw.pe]) rfl (by omega)).here⟩
end Go.Proofs.Ab
namespace Go.Proofs.Ab
open Go Go.Proofs
variable {w0 : World} {h : Heap}
attribute [local irreducible] ACall aV aW aM aQ rvC rdC lp rg dr ex un rv rd'
section
variable {d : aP} {v : cF} {s : aE} {sv : StV}
theorem aHp (hR : gD w0 h d v) (hs : StS w0 h s sv) (dg : iY d) (sk : hE d s) (pat : ∀ x ∈ s.people,0 ≤ x ∧ x < d.places.length) : aM Try.prog w0 54 [.agg (aS v),.agg (stC sv)] h (.int .i64 (zZ d s)) h := by
 refine aI aJ aHY mf54_b mf54_g (Nat.le_of_ble_eq_true rfl) (by simp [AV.bdd,AV.bdds]) fun hb ha => aR ?_
 obtain ⟨o1,o2,o3,o4,o5⟩ := hR.ones
 obtain ⟨l1,l2,l3,l4,l5⟩ := hR.lens
 obtain ⟨q1,q2,q3⟩ := hs.ones
 obtain ⟨k1,k2,k3⟩ := hs.lens
 have dp := dg.pn
 have dl := dg.pe
 obtain ⟨G,eG⟩ : ∃ G,G = h ++ [some (Blk.row [v.pl,v.ln,v.pn,v.pe,v.we]),some (Blk.row [sv.pl,sv.le,sv.pe])] := ⟨_,rfl⟩
 have sG : aB h G := eG ▸ aB.refl.app
 have g0 : G[h.length]? = some (some (.row [v.pl,v.ln,v.pn,v.pe,v.we])) := by rw [eG]; simp
 have g1 : G[h.length + 1]? = some (some (.row [sv.pl,sv.le,sv.pe])) := by rw [eG]; simp
 have b0 : ∀ L,(G ++ L)[h.length]? = some (some (.row [v.pl,v.ln,v.pn,v.pe,v.we])) := fun L => aA g0
 have b1 : ∀ L,(G ++ L)[h.length + 1]? = some (some (.row [sv.pl,sv.le,sv.pe])) := fun L => aA g1
 simp only [go_sem,mf54,aS,stC,o1,o2,o3,o4,o5,q1,q2,q3]
 rw [← eG]
 have hRG := hR.sub sG
 have hsG := hs.sub sG
 refine cT (S := Unit) (fun j _ => [(2,.ptr (.own h.length 0)),(3,.ptr (.own (h.length + 1) 0)),(5,.int .i64 (jH (gL d s) j)),(6,.int .i64 j)]) (fun _ _ => G) (fun _ _ => True) d.planes.length () trivial rfl rfl (fun j _ hj _ ih => ?_) (fun _ _ => ?_)
 · refine aC aJ aCR [2,3,5,6] L54_0.eq_1 ?_
   obtain ⟨p,p1,p0⟩ := hRG.toDayS.plane hj
   have p2 : ∀ L,rd w0 (G ++ L) (p.add 1) = some (.int .i64 d.planes[j].home) := fun L => bX (p0 L) rfl
   have p3 : ∀ L,rd w0 (G ++ L) (p.add 4) = some (.int .i64 d.planes[j].away) := fun L => bX (p0 L) rfl
   have p2' := p2 []
   have p3' := p3 []
   rw [List.append_nil] at p2' p3'
   have hjs : j < s.planes.length := by rw [sk.s1]; exact hj
   obtain ⟨a,a1,a2,a3⟩ := hsG.planes.s.at_ hjs
   have e3 : (j : Int) < s.planes.length := by omega
   have hbd := lJ (by omega) (mZ dg s) j
   have hbj := mZ dg s j
   have ej : gL d s j = if s.planes[j] = d.planes[j].home then 0 else d.planes[j].away := by rw [gL,aH hjs,aH hj]
   have en : jH (gL d s) (j + 1) = jH (gL d s) j + gL d s j := rfl
   have ih := ih () trivial
   rw [en,ej] at ih
   rw [ej] at hbj
   simp only [go_sem,g0,b0,g1,b1,p1,p2,p2',p3,p3',a1,a2,a3,e3,k1]
   refine ⟨fun e => ⟨?_,(by unfold I64; omega),?_⟩,fun e => ⟨(by unfold I64; omega),?_⟩⟩
   · rw [if_neg e] at hbj; constructor <;> omega
   · rw [if_neg e] at ih; exact ih
   · rw [if_pos e,Int.add_zero] at ih; exact ih
 refine aC aJ aCR [2,3,5,6] L54_0.eq_1 ?_
 have e3 : ¬ (d.planes.length : Int) < s.planes.length := by have := sk.s1; omega
 simp only [go_sem,g0,b0,g1,b1,e3,k1]
 refine cT (S := Unit) (fun j _ => [(2,.ptr (.own h.length 0)),(3,.ptr (.own (h.length + 1) 0)),(5,.int .i64 (jH (gL d s) d.planes.length + jH (eX d s) j)),(7,.int .i64 j)]) (fun _ _ => G) (fun _ _ => True) d.people.length () trivial (by simp [jH]) rfl (fun j _ hj _ ih => ?_) (fun _ _ => ?_)
 · refine aC aJ aCQ [2,3,5,7] L54_1.eq_1 ?_
   obtain ⟨p,p1,p0⟩ := hRG.toDayS.person hj
   have p2 : ∀ L,rd w0 (G ++ L) (p.add 1) = some (.int .i64 d.people[j].to) := fun L => bX (p0 L) rfl
   have p3 : ∀ L,rd w0 (G ++ L) (p.add 3) = some (.int .i64 d.people[j].strand) := fun L => bX (p0 L) rfl
   have p4 : ∀ L,rd w0 (G ++ L) (p.add 4) = some (.int .i64 d.people[j].lodged) := fun L => bX (p0 L) rfl
   have p2' := p2 []
   have p3' := p3 []
   have p4' := p4 []
   rw [List.append_nil] at p2' p3' p4'
   have hjs : j < s.people.length := by rw [sk.s3]; exact hj
   obtain ⟨a,a1,a2,a3⟩ := hsG.people.s.at_ hjs
   have e4 : (j : Int) < s.people.length := by omega
   have hp := pat _ (List.getElem_mem hjs)
   obtain ⟨x,ex'⟩ : ∃ x : Nat,s.people[j] = x := ⟨s.people[j].toNat,by omega⟩
   have hxl : x < d.places.length := by omega
   obtain ⟨z,z1,z0⟩ := hRG.toDayS.place hxl
   have z2 : ∀ L,rd w0 (G ++ L) (z.add 1) = some (.bool d.places[x].lodge) := fun L => bX (z0 L) rfl
   have z2' := z2 []
   rw [List.append_nil] at z2'
   have an : s.people[j].toNat = x := by omega
   have hp0 := hp.1
   have hb1 := lJ (by omega) (mZ dg s) d.planes.length
   have hb2 := lJ (by omega) (nH dg s) j
   have hbj := nH dg s j
   have ej : eX d s j = if s.people[j] = d.people[j].to then 0 else if d.places[x].lodge then d.people[j].lodged else d.people[j].strand := by rw [eX,aH hjs,aH hj,ex',Int.toNat_natCast,aH hxl]
   have en : jH (eX d s) (j + 1) = jH (eX d s) j + eX d s j := rfl
   have ih := ih () trivial
   rw [en,ej,← Int.add_assoc] at ih
   rw [ej] at hbj
   simp only [go_sem,g0,b0,g1,b1,p1,p2,p2',a1,a2,a3,e4,k3]
   refine ⟨fun e => ⟨(by unfold I64; omega),?_⟩,fun e => ?_⟩
   · rw [if_pos e,Int.add_zero] at ih; exact ih
   rw [if_neg e] at ih hbj
   simp only [go_sem,g0,b0,g1,b1,p1,p3,p3',p4,p4',a1,a2,a3,z1,z2,z2',an,hp0]
   refine ⟨fun e' => ⟨?_,(by unfold I64; omega),?_⟩,fun e' => ⟨?_,(by unfold I64; omega),?_⟩⟩
   · rw [if_pos e'] at hbj; constructor <;> omega
   · rw [if_pos e'] at ih; exact ih
   · rw [if_neg (by simp [e'])] at hbj; constructor <;> omega
   · rw [if_neg (by simp [e'])] at ih; exact ih
 refine aC aJ aCQ [2,3,5,7] L54_1.eq_1 ?_
 have e4 : ¬ (d.people.length : Int) < s.people.length := by have := sk.s3; omega
 simp only [go_sem,g0,b0,g1,b1,e4,k3]
 exact ⟨rfl,_,eG⟩
theorem aDl (a b : Int) (hR : gD w0 h d v) : aM Try.prog w0 142 [.agg (aS v),.int .i64 a,.int .i64 b] h (.bool (cO d a b)) h := by
 refine iZ trivial (bB aJ aEX aIv aIu (Nat.le_of_ble_eq_true rfl) fun hb ha => aR ?_)
 obtain ⟨o1,o2,o3,o4,o5⟩ := hR.ones
 obtain ⟨l1,l2,l3,l4,l5⟩ := hR.lens
 have n2 := hR.l2
 obtain ⟨K0,eK0⟩ : ∃ K0 : Heap,K0 = h ++ [some (.row (aS v))] := ⟨_,rfl⟩
 have s0 : aB h K0 := eK0 ▸ aB.refl.app
 have g0 : K0[h.length]? = some (some (.row (aS v))) := by rw [eK0]; simp
 simp only [go_sem,mf142,o1,o2,o3,o4,o5]
 rw [show h ++ [some (Blk.row [v.pl,v.ln,v.pn,v.pe,v.we])] = K0 by rw [eK0]; rfl]
 refine fG (S := Nat × Heap) (F := fun s => [(1,.int .i64 a),(2,.int .i64 b),(3,.ptr (.own h.length 0)),(7,.int .i64 s.1)]) (H := fun s => s.2) (meas := fun s => d.links.length - s.1)
  (Inv := fun s => s.1 ≤ d.links.length ∧ aB K0 s.2 ∧ ∀ (j : Nat) (_ : j < s.1) (hj : j < d.links.length),¬ (d.links[j] = ⟨a,b⟩ ∨ d.links[j] = ⟨b,a⟩)) (0,K0) ⟨Nat.zero_le _,aB.refl,fun j hj => absurd hj (by simp)⟩ rfl rfl ?_
 rintro ⟨j,G⟩ ⟨hj,sG,f1⟩ ih
 simp only at hj sG f1 ih
 refine aC aJ aGJ [1,2,3,7] L142_0.eq_1 ?_
 have gG := sG.2 _ _ g0
 have bG : ∀ L,(G ++ L)[h.length]? = some (some (.row (aS v))) := fun L => aA gG
 rcases Nat.lt_or_ge j d.links.length with hjl | hjl
 · have i3 : (j : Int) < d.links.length := by omega
   obtain ⟨p,p1,p2⟩ := (hR.sub (s0.trans sG)).toDayS.link hjl
   have p2' := p2 []
   rw [List.append_nil] at p2'
   obtain ⟨x,ex⟩ : ∃ x,x = d.links[j] := ⟨_,rfl⟩
   rw [← ex] at p2 p2'
   simp only [go_sem,l2,i3,gG,bG,aS,p1,p2,p2',cB.c]
   have sGL : ∀ L,aB h (G ++ L) := fun L => s0.trans sG.app
   have yes : ∀ L,(x = ⟨a,b⟩ ∨ x = ⟨b,a⟩) → aB h (G ++ L) ∧ AV.bool true = AV.bool (cO d a b) := fun L e => by
    refine ⟨sGL L,?_⟩
    have hm : x ∈ d.links := ex ▸ List.getElem_mem hjl
    have : cO d a b = true := by
     rw [cO,Bool.or_eq_true,List.any_eq_true,List.any_eq_true]
     rcases e with e | e
     · exact .inl ⟨x,hm,decide_eq_true e.symm⟩
     · exact .inr ⟨x,hm,decide_eq_true e.symm⟩
    rw [this]
   have no := fun (e : ¬ (x = ⟨a,b⟩ ∨ x = ⟨b,a⟩)) => ih (j + 1,G ++ [some (Blk.row [.int .i64 x.one,.int .i64 x.other])]) ⟨by simp only; omega,sG.app,fun q hq hq2 => by
    simp only at hq
    rcases Nat.lt_or_ge q j with h1 | h1
    · exact f1 q h1 hq2
    · obtain rfl : q = j := by omega
      rw [← ex]; exact e⟩ (by simp only; omega)
   obtain ⟨x1,x2⟩ := x
   simp only [Int.natCast_add,Int.cast_ofNat_Int] at no
   refine ⟨fun e1 => ⟨fun e2 => ⟨fun e3 => ⟨fun e4 => yes _ (.inr (by cases e3; cases e4; rfl)),fun e4 => ⟨(by unfold I64; omega),no ?_⟩⟩,fun e3 => ⟨(by unfold I64; omega),no ?_⟩⟩,fun e2 => yes _ (.inl (by cases e1; cases e2; rfl))⟩,fun e1 => ⟨fun e3 => ⟨fun e4 => yes _ (.inr (by cases e3; cases e4; rfl)),fun e4 => ⟨(by unfold I64; omega),no ?_⟩⟩,fun e3 => ⟨(by unfold I64; omega),no ?_⟩⟩⟩
   all_goals
    rintro (e | e) <;> cases e
    · first | exact absurd rfl e1 | exact absurd rfl e2
    · first | exact absurd rfl e3 | exact absurd rfl e4
 · have i3 : ¬ (j : Int) < d.links.length := by omega
   obtain rfl : j = d.links.length := by omega
   simp only [go_sem,l2,i3,gG,bG,aS]
   refine ⟨s0.trans sG,?_⟩
   have : cO d a b = false := by
    rw [cO,Bool.or_eq_false_iff,List.any_eq_false,List.any_eq_false]
    constructor
    all_goals
     intro y hy
     obtain ⟨i,hi,rfl⟩ := List.getElem_of_mem hy
     have := f1 i hi hi
     simp only [decide_eq_true_eq]
     intro e
     exact this (by simp [← e])
   rw [this]
end
end Go.Proofs.Ab
namespace Go.Proofs.Ab
open Go Go.Proofs
variable {w0 : World} {h : Heap}
attribute [local irreducible] ACall aV aW aM aQ rvC rdC lp rg dr ex un rv rd'
section
variable {d : aP} {v : cF} {s : aE} {sv : StV}
theorem aGh {o a : Nat} (e : ((o / 2 ^ a % 2 : Nat) : Int) = 0) : cG o a = false := by
 rw [cG]; exact decide_eq_false (by omega)
theorem aCm {o a : Nat} (e : ¬ ((o / 2 ^ a % 2 : Nat) : Int) = 0) : cG o a = true := by
 rw [cG]; exact decide_eq_true (by omega)
theorem aDn (op : Int) (u : List aF) (uv : AV) (i : Nat) (hi : i < u.length) (hR : gD w0 h d v) (hs : StS w0 h s sv) (hU : UnV w0 h uv u) (dg : iY d) (sk : hE d s) (uk : uD d u) (o1 : 0 ≤ op) (o2 : op < 2 ^ 50) :
 aM Try.prog w0 96 [.agg (aS v),.agg (stC sv),.int .i64 op,uv,.int .i64 i] h (.int .i64 (oG d s op u i)) h := by
 refine aI aJ aHw mf96_b mf96_g (Nat.le_of_ble_eq_true rfl) (by simp [AV.bdd,AV.bdds]) fun hb ha => aR ?_
 obtain ⟨y1,y2,y3,y4,y5⟩ := hR.ones
 obtain ⟨l1,l2,l3,l4,l5⟩ := hR.lens
 obtain ⟨q1,q2,q3⟩ := hs.ones
 obtain ⟨k1,k2,k3⟩ := hs.lens
 have hip : i < d.planes.length := by have := uk.len; omega
 obtain ⟨x,ex⟩ : ∃ x,x = u[i] := ⟨_,rfl⟩
 obtain ⟨fp,pv,f1,f2,_,_,f5⟩ := hU.at_ hi
 rw [← ex] at f2 f5
 have opv := f5.one.1
 have lpp := (SlI.use f5).1
 have hxu : x ∈ u := ex ▸ List.getElem_mem hi
 have hto := uk.to x hxu
 have hpp := uk.pp x hxu
 have hpl := (uk.ok dg.pe).pl x hxu
 obtain ⟨G,eG⟩ : ∃ G,G = h ++ [some (Blk.row [v.pl,v.ln,v.pn,v.pe,v.we]),some (Blk.row [sv.pl,sv.le,sv.pe]),some (Blk.row [.int .i64 x.to,pv])] := ⟨_,rfl⟩
 have sG : aB h G := eG ▸ aB.refl.app
 have g0 : G[h.length]? = some (some (.row [v.pl,v.ln,v.pn,v.pe,v.we])) := by rw [eG]; simp
 have g1 : G[h.length + 1]? = some (some (.row [sv.pl,sv.le,sv.pe])) := by rw [eG]; simp
 have g2 : G[h.length + 2]? = some (some (.row [.int .i64 x.to,pv])) := by rw [eG]; simp
 have b0 : ∀ L,(G ++ L)[h.length]? = some (some (.row [v.pl,v.ln,v.pn,v.pe,v.we])) := fun L => aA g0
 have b1 : ∀ L,(G ++ L)[h.length + 1]? = some (some (.row [sv.pl,sv.le,sv.pe])) := fun L => aA g1
 have b2 : ∀ L,(G ++ L)[h.length + 2]? = some (some (.row [.int .i64 x.to,pv])) := fun L => aA g2
 have hx : u.getD i ⟨-1,[]⟩ = x := by rw [aH hi,ex]
 have hRG := hR.sub sG
 have hsG := hs.sub sG
 have hUG := hU.sub sG
 have hpG := Sl.sub f5 sG
 have hjs : i < s.planes.length := by rw [sk.s1]; exact hip
 have hjl : i < s.legs.length := by rw [sk.s2]; exact hip
 obtain ⟨a,a1,a2,a3⟩ := hsG.planes.s.at_ hjs
 obtain ⟨c,c1,c2,c3⟩ := hsG.legs.s.at_ hjl
 obtain ⟨p,p1,p0⟩ := hRG.toDayS.plane hip
 have p2 : ∀ L,rd w0 (G ++ L) (p.add 2) = some (.int .i64 d.planes[i].seats) := fun L => bX (p0 L) rfl
 have p3 : ∀ L,rd w0 (G ++ L) (p.add 3) = some (.int .i64 d.planes[i].duty) := fun L => bX (p0 L) rfl
 have p2' := p2 []
 have p3' := p3 []
 rw [List.append_nil] at p2' p3'
 have hat := sk.at_ _ (List.getElem_mem hjs)
 have dp1 := dg.p1
 have dp2 := dg.pn
 simp only [go_sem,mf96,aS,stC,y1,y2,y3,y4,y5,q1,q2,q3,f1,f2,opv]
 rw [← eG]
 by_cases t0 : x.to < 0
 · simp only [go_sem,t0]
   rw [oG]; simp only [hx]; rw [if_pos t0]
 simp only [go_sem,t0,g0,g1,g2,b0,b1,b2,y1,y2,y3,y4,y5,a1,a2,a3]
 refine dP (aDl s.planes[i] x.to hRG).v ?_
 have hr : oG d s op u i = if !cO d s.planes[i] x.to then 2 else
  if !(cG op.toNat s.planes[i].toNat && cG op.toNat x.to.toNat) then 3 else
  if !decide (s.legs[i] < d.planes[i].duty) then 4 else
  if rP s u i x then 5 else if !decide (eL d x.people ≤ d.planes[i].seats) then 6 else 1 := by
  rw [oG]; simp only [hx]; rw [if_neg t0,aH hjs,aH hjl,aH hip]
 cases r1 : cO d s.planes[i] x.to with
 | false => simp only [go_sem]; exact ⟨by rw [hr,r1]; rfl,_,eG⟩
 | true =>
 obtain ⟨o,eo⟩ : ∃ o : Nat,op = o := ⟨op.toNat,by omega⟩
 obtain ⟨t,et⟩ : ∃ t : Nat,x.to = t := ⟨x.to.toNat,by omega⟩
 obtain ⟨aa,ea⟩ : ∃ a : Nat,s.planes[i] = a := ⟨s.planes[i].toNat,by omega⟩
 have o62 : o < 2 ^ 62 := by omega
 have z1 : bin .shr (.int .i64 op) (.int .i64 x.to) = some (.int .i64 ((o / 2 ^ t : Nat) : Int)) := by rw [eo,et]; exact fV (by omega)
 have z2 : bin .shr (.int .i64 op) (.int .i64 s.planes[i]) = some (.int .i64 ((o / 2 ^ aa : Nat) : Int)) := by rw [eo,ea]; exact fV (by omega)
 have d1 : o / 2 ^ t < 2 ^ 62 := Nat.lt_of_le_of_lt (Nat.div_le_self _ _) o62
 have d2 : o / 2 ^ aa < 2 ^ 62 := Nat.lt_of_le_of_lt (Nat.div_le_self _ _) o62
 have z3 := fT d1
 have z4 := fT d2
 have hb2 : (cG op.toNat s.planes[i].toNat && cG op.toNat x.to.toNat) = (cG o aa && cG o t) := by rw [eo,et,ea]; rfl
 simp only [go_sem,z1,z2,z3,z4,g1,b1,g2,b2,a1,a2,a3]
 refine ⟨fun e1 => ⟨fun e2 => ⟨by rw [hr,r1,hb2,aGh e2]; simp,_,eG⟩,fun e2 => ?_⟩,fun e1 => ⟨by rw [hr,r1,hb2,aGh e1]; simp,_,eG⟩⟩
 have r2 : (cG op.toNat s.planes[i].toNat && cG op.toNat x.to.toNat) = true := by rw [hb2,aCm e1,aCm e2]; rfl
 simp only [go_sem,c1,c2,c3,g0,b0,p1,p3,p3']
 refine ⟨fun e3 => ⟨by rw [hr,r1,r2,decide_eq_false (by omega)]; rfl,_,eG⟩,fun e3 => ?_⟩
 have hr2 : oG d s op u i = if rP s u i x then 5 else if !decide (eL d x.people ≤ d.planes[i].seats) then 6 else 1 := by rw [hr,r1,r2,decide_eq_true (by omega)]; rfl
 obtain ⟨bad,ebad⟩ : ∃ bad : Int → Bool,bad = fun n => !(s.people.getD n.toNat 0 == s.planes.getD i 0) || (u.take i).any fun y => y.people.any fun z => z == n := ⟨_,rfl⟩
 have hbad : rP s u i x = x.people.any bad := by rw [rP,ebad]
 refine cT (S := Unit) (fun j _ => [(3,uv),(4,.int .i64 i),(5,.ptr (.own h.length 0)),(6,.ptr (.own (h.length + 1) 0)),(11,.ptr (.own (h.length + 2) 0)),(12,.int .i64 (eL d (x.people.take j))),(13,.int .i64 j)]) (fun _ _ => G) (fun j _ => ∀ k (hk : k < x.people.length),k < j → bad x.people[k] = false) x.people.length () (fun k hk h => absurd h (by simp)) (by rw [List.take_zero]; rfl) rfl (fun j _ hj hall ih => ?_) (fun _ hall => ?_)
 · refine aC aJ aCq [3,4,5,6,11,12,13] L96_2.eq_1 ?_
   obtain ⟨n,en⟩ : ∃ n : Nat,x.people[j] = n := ⟨x.people[j].toNat,by have := hpp.1 _ (List.getElem_mem hj); omega⟩
   have hn := hpp.1 _ (List.getElem_mem hj)
   have hnp : n < d.people.length := by omega
   have hns : n < s.people.length := by rw [sk.s3]; omega
   have i3 : (j : Int) < x.people.length := by omega
   obtain ⟨w,w1,w2,w3⟩ := SlI.at_ hpG hj
   obtain ⟨pp,pp1,pp0⟩ := hRG.toDayS.person hnp
   have pp2 : ∀ L,rd w0 (G ++ L) (pp.add 2) = some (.int .i64 d.people[n].seats) := fun L => bX (pp0 L) rfl
   have pp2' := pp2 []
   rw [List.append_nil] at pp2'
   obtain ⟨z,zz1,zz2,zz3⟩ := hsG.people.s.at_ hns
   have hn0 := hn.1
   have an : x.people[j].toNat = n := by omega
   have sbd : ∀ p ∈ d.people,0 ≤ p.seats ∧ p.seats ≤ 1000 := fun p hp => by have := (dg.people p hp).2.2.1; omega
   have bd := uZ (d := d) (l := x.people.take (j + 1)) sbd
   rw [List.length_take] at bd
   have etk := rI (d := d) hj
   rw [an,aH hnp] at etk
   have hst : bad x.people[j] = true → oG d s op u i = 5 := fun e => by
    rw [hr2,hbad,List.any_eq_true.2 ⟨_,List.getElem_mem hj,e⟩,if_pos rfl]
   simp only [go_sem,g0,g1,g2,b0,b1,b2,lpp,i3,w1,w2,w3,pp1,pp2,pp2',zz1,zz2,zz3,hn0,an,a1,a2,a3]
   refine ⟨⟨by omega,by omega⟩,fun e => ⟨by rw [hst (by rw [ebad,Bool.or_eq_true,an,aH hns,aH hjs]; left; simpa using e)],_,eG⟩,fun e => ?_⟩
   refine cP (fun k => [(3,uv),(4,.int .i64 i),(5,.ptr (.own h.length 0)),(6,.ptr (.own (h.length + 1) 0)),(11,.ptr (.own (h.length + 2) 0)),(12,.int .i64 (eL d (x.people.take j) + d.people[n].seats)),(13,.int .i64 j),(14,.int .i64 x.people[j]),(15,.int .i64 k)]) (fun k => ((u.getD k ⟨-1,[]⟩).people.any fun z => z == x.people[j]) = false) i rfl (fun k hk _ ih2 => ?_) (fun hall2 => ?_)
   · refine aC aJ aCr [3,4,5,6,11,12,13,14,15] L96_1.eq_1 ?_
     have i4 : (k : Int) < i := by omega
     have hku : k < u.length := by omega
     obtain ⟨kp,kv,kf1,_,_,kf4,kf5⟩ := hUG.at_ hku
     have kf4' := kf4 []
     rw [List.append_nil] at kf4'
     have kl := (SlI.use kf5).1
     have kok := (uk.ok dg.pe).pl _ (List.getElem_mem hku)
     rw [aH hku] at ih2
     simp only [go_sem,i4]
     refine cP (fun l => [(3,uv),(4,.int .i64 i),(5,.ptr (.own h.length 0)),(6,.ptr (.own (h.length + 1) 0)),(11,.ptr (.own (h.length + 2) 0)),(12,.int .i64 (eL d (x.people.take j) + d.people[n].seats)),(13,.int .i64 j),(14,.int .i64 x.people[j]),(15,.int .i64 k),(16,.int .i64 l)]) (fun l => ¬ u[k].people.getD l 0 = x.people[j]) u[k].people.length rfl (fun l hl _ ih3 => ?_) (fun hall3 => ?_)
     · refine aC aJ aCs [3,4,5,6,11,12,13,14,15,16] L96_0.eq_1 ?_
       have i5 : (l : Int) < u[k].people.length := by omega
       obtain ⟨lw,lw1,lw2,lw3⟩ := SlI.at_ kf5 hl
       rw [aH hl] at ih3
       simp only [go_sem,kf1,kf4,kf4',kl,i5,lw1,lw2,lw3]
       refine ⟨fun e4 => ?_,fun e4 => ⟨(by unfold I64; omega),ih3 e4⟩⟩
       suffices hb : bad x.people[j] = true from ⟨by rw [hst hb],_,eG⟩
       rw [ebad,Bool.or_eq_true]
       right
       rw [List.any_eq_true]
       refine ⟨u[k],List.mem_take_iff_getElem.2 ⟨k,by omega,rfl⟩,?_⟩
       rw [List.any_eq_true]
       exact ⟨_,List.getElem_mem hl,by simp [e4]⟩
     · refine aC aJ aCs [3,4,5,6,11,12,13,14,15,16] L96_0.eq_1 ?_
       have i5 : ¬ (u[k].people.length : Int) < u[k].people.length := by omega
       simp only [go_sem,kf1,kf4,kf4',kl,i5]
       refine ⟨(by unfold I64; omega),ih2 ?_⟩
       rw [List.any_eq_false]
       intro z hz
       obtain ⟨l,hl,rfl⟩ := List.getElem_of_mem hz
       have := hall3 l hl
       rw [aH hl] at this
       simpa using this
   · refine aC aJ aCr [3,4,5,6,11,12,13,14,15] L96_1.eq_1 ?_
     have i4 : ¬ (i : Int) < i := by omega
     simp only [go_sem,i4]
     rw [etk] at ih
     refine ⟨(by unfold I64; omega),ih () fun k hk hkj => ?_⟩
     rcases Nat.lt_or_ge k j with h1 | h1
     · exact hall k hk h1
     · obtain rfl : k = j := by omega
       rw [ebad,Bool.or_eq_false_iff]
       refine ⟨by rw [an,aH hns,aH hjs]; simp [e],?_⟩
       rw [List.any_eq_false]
       intro y hy
       obtain ⟨q,hq,rfl⟩ := List.mem_take_iff_getElem.1 hy
       have := hall2 q (by omega)
       rw [aH (by omega)] at this
       simp [this]
 refine aC aJ aCq [3,4,5,6,11,12,13] L96_2.eq_1 ?_
 have i3 : ¬ (x.people.length : Int) < x.people.length := by omega
 simp only [go_sem,g0,g1,g2,b0,b1,b2,lpp,i3,p1,p2,p2']
 have hb0 : rP s u i x = false := by
  rw [hbad,List.any_eq_false]
  intro z hz
  obtain ⟨k,hk,rfl⟩ := List.getElem_of_mem hz
  simp [hall k hk hk]
 rw [List.take_length]
 exact ⟨fun e => ⟨by rw [hr2,hb0,decide_eq_false (by omega)]; rfl,_,eG⟩,fun e => ⟨by rw [hr2,hb0,decide_eq_true (by omega)]; rfl,_,eG⟩⟩
end
end Go.Proofs.Ab
namespace Go.Proofs.Ab
open Go Go.Proofs
variable {w0 : World} {h : Heap}
attribute [local irreducible] ACall aV aW aM aQ rvC rdC lp rg dr ex un rv rd'
theorem oQ {H : Heap} {v : AV} {l : List Int} (hv : SlO w0 H v l) (hl : l.length < 1000000) : ∃ y H',eP w0 H 1 8 .nilS v = some (y,H') ∧ aB H H' ∧ iB w0 H' H.length y l := by
 by_cases hl0 : l = []
 · refine ⟨.nilS,H,?_,aB.refl,?_⟩
   · simp [eP,hv.e hl0]
   · subst hl0
     exact ⟨⟨.inl ⟨rfl,rfl⟩,fun _ => rfl⟩,fun e => absurd rfl e,fun _ => .inl rfl⟩
 · rcases hv.s with ⟨_,e2⟩ | ⟨q,full,⟨es',rfl,he⟩,_,s3⟩
   · exact absurd (by simpa using e2) hl0
   · have hr2 := Sl.all (by simpa using hl0) s3
     have hlen : l.length ≠ 0 := fun e => hl0 (List.eq_nil_of_length_eq_zero e)
     have ho : (aO l).all one = true := by simp [aO,List.all_eq_true,one]
     have hsz : l.length * (8 + 1) ≤ 2 ^ 40 := by omega
     rw [← dT,List.length_map,Nat.mul_one] at hr2
     refine ⟨.sl (.own H.length 0) l.length 1 false,H ++ [some (.row (aO l))],?_,aB.refl.app,?_⟩
     · simp only [eP,srcOf,he,mQ,if_true,List.length_map,Nat.mul_one,hr2,Option.map_some,Option.bind_some]
       rw [if_neg hlen,if_pos ⟨hsz,ho⟩]
       rfl
     · have := hJ (w0 := w0) (H := H ++ [some (Blk.row (aO l))]) (full := false) (io := H.length) (rows := l.map fun z => [AV.int .i64 z]) (es := 1) (by rw [← dT]; simp) (fun c hc => by obtain ⟨z,_,rfl⟩ := List.mem_map.1 hc; rfl)
       rw [List.length_map] at this
       exact ⟨⟨this,fun e => absurd e hl0⟩,fun _ => ⟨H.length,Nat.le_refl _,by simp,rfl,by simp⟩,fun e => absurd e hl0⟩
structure MvI (w0 : World) (G : Heap) (c : Nat) (nv : StV) (a b e : Nat) (H : Heap) (n : aE) : Prop where
 sub : aB G H
 hc : H[c]? = some (some (.row (stC nv)))
 p : gC w0 H G.length a nv.pl n.planes
 l : gC w0 H G.length b nv.le n.legs
 e : gC w0 H G.length e nv.pe n.people
structure MvX (N c a b e : Nat) : Prop where
 c0 : N ≤ c
 a0 : N ≤ a
 b0 : N ≤ b
 e0 : N ≤ e
 ac : a ≠ c
 bc : b ≠ c
 ec : e ≠ c
 ab : a ≠ b
 ae : a ≠ e
 be : b ≠ e
section
variable {G H : Heap} {c a b e : Nat} {nv : StV} {n : aE}
theorem MvI.putP (m : MvI w0 G c nv a b e H n) (x : MvX G.length c a b e) {j : Nat} (hj : j < n.planes.length) (t : Int) : MvI w0 G c nv a b e (H.set a (some (.row (aO (n.planes.set j t))))) ⟨n.planes.set j t,n.legs,n.people⟩ := by
 obtain ⟨_,_,_,h4⟩ := m.p.b (fun e => by rw [e] at hj; simp at hj)
 exact ⟨m.sub.setR x.a0,by rw [List.getElem?_set_ne x.ac]; exact m.hc,m.p.put hj t,m.l.set h4 (by simp [aO]) (fun _ => x.ab.symm),m.e.set h4 (by simp [aO]) (fun _ => x.ae.symm)⟩
theorem MvI.putL (m : MvI w0 G c nv a b e H n) (x : MvX G.length c a b e) {j : Nat} (hj : j < n.legs.length) (t : Int) : MvI w0 G c nv a b e (H.set b (some (.row (aO (n.legs.set j t))))) ⟨n.planes,n.legs.set j t,n.people⟩ := by
 obtain ⟨_,_,_,h4⟩ := m.l.b (fun e => by rw [e] at hj; simp at hj)
 exact ⟨m.sub.setR x.b0,by rw [List.getElem?_set_ne x.bc]; exact m.hc,m.p.set h4 (by simp [aO]) (fun _ => x.ab),m.l.put hj t,m.e.set h4 (by simp [aO]) (fun _ => x.be.symm)⟩
theorem MvI.putE (m : MvI w0 G c nv a b e H n) (x : MvX G.length c a b e) {j : Nat} (hj : j < n.people.length) (t : Int) : MvI w0 G c nv a b e (H.set e (some (.row (aO (n.people.set j t))))) ⟨n.planes,n.legs,n.people.set j t⟩ := by
 obtain ⟨_,_,_,h4⟩ := m.e.b (fun e => by rw [e] at hj; simp at hj)
 exact ⟨m.sub.setR x.e0,by rw [List.getElem?_set_ne x.ec]; exact m.hc,m.p.set h4 (by simp [aO]) (fun _ => x.ae),m.l.set h4 (by simp [aO]) (fun _ => x.be),m.e.put hj t⟩
end
theorem iB.id {H : Heap} {N : Nat} {y : AV} {l : List Int} (a : iB w0 H N y l) (M k : Nat) (hM : H.length ≤ M) (hk : N ≤ M + k) : ∃ id,N ≤ id ∧ (id < H.length ∨ id = M + k) ∧ gC w0 H N id y l := by
 obtain ⟨id,i1,i2⟩ := a.i
 by_cases hl : l = []
 · exact ⟨M + k,hk,.inr rfl,i2.o,fun e => absurd hl e,i2.z⟩
 · exact ⟨id,i1 hl,.inl (i2.b hl).2.1,i2⟩
end Go.Proofs.Ab
namespace Go.Proofs.Ab
open Go Go.Proofs
variable {w0 : World} {h : Heap}
attribute [local irreducible] ACall aV aW aM aQ rvC rdC lp rg dr ex un rv rd'
def RFlyK (w0 : World) (h : Heap) (d : aP) (s : aE) (op : Int) (u : List aF) (y : AV) (h' : Heap) : Prop :=
 aB h h' ∧ ∃ nv,y = .tup [.agg (stC nv),.int .i64 (rM d s op u).2.1,.int .i64 (rM d s op u).2.2] ∧ StS w0 h' (rM d s op u).1 nv
theorem aHr {d : aP} {s : aE} {op : Int} {u : List aF} {j : Nat} (hj : j < u.length) : rL d s op u (u.drop j) j = if oG d s op u j ≠ 1 then some (oG d s op u j,(j : Int)) else rL d s op u (u.drop (j + 1)) (j + 1) := by
 rw [List.drop_eq_getElem_cons hj,rL]
theorem aEL {u : List aF} {n : aE} {j : Nat} (hj : j < u.length) : mvL (u.drop j) j n = mvL (u.drop (j + 1)) (j + 1) (if u[j].to < 0 then n else gU n j u[j]) := by
 rw [List.drop_eq_getElem_cons hj,mvL]
theorem rfly_c (d : aP) (v : cF) (s : aE) (sv : StV) (op : Int) (u : List aF) (uv : AV) (hR : gD w0 h d v) (hs : StS w0 h s sv) (hU : UnV w0 h uv u) (dg : iY d) (sk : hE d s) (uk : uD d u) (o1 : 0 ≤ op) (o2 : op < 2 ^ 50) :
 ACall Try.prog w0 56 [.agg (aS v),.agg (stC sv),.int .i64 op,uv] h (RFlyK w0 h d s op u) := by
 refine bB aJ aHW mf56_b mf56_g (Nat.le_of_ble_eq_true rfl) fun hb ha => aR ?_
 obtain ⟨y1,y2,y3,y4,y5⟩ := hR.ones
 obtain ⟨l1,l2,l3,l4,l5⟩ := hR.lens
 obtain ⟨q1,q2,q3⟩ := hs.ones
 have lu := NS.len hU
 have ul := uk.len
 have dp := dg.pn
 have dl := dg.pe
 obtain ⟨G,eG⟩ : ∃ G,G = h ++ [some (Blk.row [v.pl,v.ln,v.pn,v.pe,v.we]),some (Blk.row [sv.pl,sv.le,sv.pe]),some (Blk.row [.nilS,.nilS,.nilS])] := ⟨_,rfl⟩
 have sG : aB h G := eG ▸ aB.refl.app
 have gl : G.length = h.length + 3 := by rw [eG]; simp
 have g0 : G[h.length]? = some (some (.row [v.pl,v.ln,v.pn,v.pe,v.we])) := by rw [eG]; simp
 have g1 : G[h.length + 1]? = some (some (.row [sv.pl,sv.le,sv.pe])) := by rw [eG]; simp
 have g2 : G[h.length + 2]? = some (some (.row [.nilS,.nilS,.nilS])) := by rw [eG]; simp
 have b0 : ∀ L,(G ++ L)[h.length]? = some (some (.row [v.pl,v.ln,v.pn,v.pe,v.we])) := fun L => aA g0
 have b1 : ∀ L,(G ++ L)[h.length + 1]? = some (some (.row [sv.pl,sv.le,sv.pe])) := fun L => aA g1
 have b2 : ∀ L,(G ++ L)[h.length + 2]? = some (some (.row [.nilS,.nilS,.nilS])) := fun L => aA g2
 have hRG := hR.sub sG
 have hsG := hs.sub sG
 have hUG := hU.sub sG
 simp only [go_sem,mf56,aS,stC,y1,y2,y3,y4,y5,q1,q2,q3]
 rw [← eG]
 refine cT (S := Unit) (fun j _ => [(2,.int .i64 op),(3,uv),(4,.ptr (.own h.length 0)),(5,.ptr (.own (h.length + 1) 0)),(8,.ptr (.own (h.length + 2) 0)),(11,.int .i64 j)]) (fun _ _ => G) (fun j _ => rL d s op u u 0 = rL d s op u (u.drop j) j) u.length () rfl rfl rfl (fun j _ hj hall ih => ?_) (fun _ hall => ?_)
 · refine aC aJ aCO [2,3,4,5,8,11] L56_0.eq_1 ?_
   have i3 : (j : Int) < u.length := by omega
   rw [aHr hj] at hall
   simp only [go_sem,g0,g1,b0,b1,y1,y2,y3,y4,y5,q1,q2,q3,lu,i3]
   refine aD (aDn op u uv j hj hRG hsG hUG dg sk uk o1 o2).v ?_
   obtain ⟨r,er⟩ : ∃ r,r = oG d s op u j := ⟨_,rfl⟩
   rw [← er] at hall ⊢
   have z1 : (G.set (h.length + 2) (some (Blk.row [sv.pl,sv.le,sv.pe])))[h.length + 2]? = some (some (Blk.row [sv.pl,sv.le,sv.pe])) := List.getElem?_set_self (by omega)
   simp only [go_sem,g0,g1,g2,b0,b1,b2,q1,q2,q3,z1]
   refine ⟨fun e => ?_,fun e => ⟨(by unfold I64; omega),ih () (by rw [hall,if_neg (by simpa using e)])⟩⟩
   rw [if_pos e] at hall
   refine ⟨(sG.setR (by omega)),sv,?_⟩
   rw [rM,hall]
   exact ⟨rfl,hs.sub (sG.setR (by omega))⟩
 refine aC aJ aCO [2,3,4,5,8,11] L56_0.eq_1 ?_
 have i3 : ¬ (u.length : Int) < u.length := by omega
 rw [List.drop_length,rL] at hall
 have hF : rM d s op u = if (List.range d.places.length).any (eO d (mvL u 0 s)) then (s,7,-1) else (mvL u 0 s,1,-1) := by rw [rM,hall]
 simp only [go_sem,lu,i3]
 refine aCh aJ D56_0.eq_1 (by kernel_rfl) ?_
 obtain ⟨w1,H1,ap1,s1,ow1⟩ := oQ hsG.planes (by have := sk.s1; omega)
 simp only [go_sem,g1,b1,ap1]
 have g1a := s1.2 _ _ g1
 obtain ⟨w2,H2,ap2,s2,ow2⟩ := oQ (hsG.legs.sub s1) (by have := sk.s2; omega)
 simp only [go_sem,g1a,ap2]
 have g1b := s2.2 _ _ g1a
 obtain ⟨w3,H3,ap3,s3,ow3⟩ := oQ (hsG.people.sub (s1.trans s2)) (by have := sk.s3; omega)
 have n1 := s1.1
 have n2 := s2.1
 have n3 := s3.1
 have c1 := ow1.o.s.one
 have c2 := ow2.o.s.one
 have c3 := ow3.o.s.one
 simp only [go_sem,g1b,ap3,c1.1,c1.2,c2.1,c2.2,c3.1,c3.2]
 obtain ⟨H,eH⟩ : ∃ H,H = H3 ++ [some (Blk.row [w1,w2,w3])] := ⟨_,rfl⟩
 rw [← eH]
 have s4 : aB H3 H := eH ▸ aB.refl.app
 have sGH : aB G H := s1.trans (s2.trans (s3.trans s4))
 have hl : H.length = H3.length + 1 := by rw [eH]; simp
 obtain ⟨ia,ja,ka,a1⟩ := ow1.id H3.length 1 (by omega) (by omega)
 obtain ⟨ib,jb,kb,a2⟩ := ow2.id H3.length 2 (by omega) (by omega)
 obtain ⟨ie,je,ke,a3⟩ := ow3.id H3.length 3 (by omega) (by omega)
 have X : MvX G.length H3.length ia ib ie := ⟨by omega,by omega,by omega,by omega,by omega,by omega,by omega,by omega,by omega,by omega⟩
 have M0 : MvI w0 G H3.length ⟨w1,w2,w3⟩ ia ib ie H s := ⟨sGH,by rw [eH]; simp [stC],a1.sub (s2.trans (s3.trans s4)),(a2.less n1).sub (s3.trans s4),(a3.less (by omega)).sub s4⟩
 refine cT (S := Heap × aE) (fun j _ => [(3,uv),(4,.ptr (.own h.length 0)),(5,.ptr (.own (h.length + 1) 0)),(8,.ptr (.own (h.length + 2) 0)),(13,.ptr (.own H3.length 0)),(14,.int .i64 j)]) (fun _ st => st.1)
  (fun j st => MvI w0 G H3.length ⟨w1,w2,w3⟩ ia ib ie st.1 st.2 ∧ mvL u 0 s = mvL (u.drop j) j st.2 ∧ (st.2.planes.length = s.planes.length ∧ st.2.legs.length = s.legs.length ∧ st.2.people.length = s.people.length) ∧ ∀ x ∈ st.2.legs,0 ≤ x ∧ x < 1000000 + j) u.length (H,s) ⟨M0,rfl,⟨rfl,rfl,rfl⟩,fun x hx => by have := sk.lg x hx; omega⟩ rfl rfl (fun j st hj I ih => ?_) (fun st I => ?_)
 · refine aC aJ aCM [3,4,5,8,13,14] L56_2.eq_1 ?_
   obtain ⟨K,n⟩ := st
   obtain ⟨M,hm,⟨e1,e2,e3⟩,lb⟩ := I
   simp only at M hm e1 e2 e3 lb ih ⊢
   have i4 : (j : Int) < u.length := by omega
   obtain ⟨fp,pv,f1,f2,f3,f4,f5⟩ := (hUG.sub M.sub).at_ hj
   have f3' := f3 []
   have f4' := f4 []
   rw [List.append_nil] at f3' f4'
   rw [aEL hj] at hm
   simp only [go_sem,lu,i4,f1,f3,f3']
   refine ⟨fun t0 => ⟨(by unfold I64; omega),?_⟩,fun t0 => ?_⟩
   · rw [if_pos t0] at hm
     have := ih (K,n) ⟨M,hm,⟨e1,e2,e3⟩,fun x hx => by have := lb x hx; omega⟩
     simpa using this
   rw [if_neg t0] at hm
   have hjp : j < n.planes.length := by have := sk.s1; omega
   have hjl : j < n.legs.length := by have := sk.s2; omega
   obtain ⟨z1,z2,z3,z4⟩ := M.p.use hjp
   obtain ⟨x1,x2,x3,x4⟩ := M.l.use hjl
   have z2' := z2 []
   have z3' := z3 []
   have x2' := x2 []
   have x3' := x3 []
   rw [List.append_nil] at z2' z3' x2' x3'
   have mc := M.hc
   have mcL : ∀ L,(K ++ L)[H3.length]? = some (some (.row [w1,w2,w3])) := fun L => aA mc
   simp only [stC] at mc
   have hlb := lb _ (List.getElem_mem hjl)
   refine mS aJ [0,1,2,3,4,5,6,7,8,9,10,11,12,13,14,15,16,17,18,19,20] [o_ 55 (.addr (.t 13) 0),o_ 56 (l_ 55),o_ 57 (m_ 14),o_ 58 (.addr (.t 13) 1),o_ 59 (l_ 58),o_ 60 (m_ 14),o_ 61 (m_ 3),o_ 62 (m_ 14),o_ 63 (.idxs 2 (.t 61) (.t 62)),o_ 64 (.addr (.t 63) 0),o_ 65 (l_ 64),o_ 66 (.addr (.t 13) 1),o_ 67 (l_ 66),o_ 68 (m_ 14),o_ 69 (.idxs 1 (.t 67) (.t 68)),o_ 70 (l_ 69),o_ 71 (.bin .add (.t 70) (i_ 1)),o_ 72 (.idxs 1 (.t 56) (.t 57)),.op none none (.store (.t 72) (.t 65) 1)] [([(4,o_ 59 (l_ 58))],[o_ 73 (.idxs 1 (.t 59) (.t 60)),.op none none (.store (.t 73) (.t 71) 1)])] rfl rfl (by kernel_rfl) ?_
   simp only [go_sem,mc,mcL,f1,f3,f3',z1,z2,z2',z3,z3',x1,x2,x2',x3,x3']
   have il1 : (aO n.planes).length = n.planes.length := by simp [aO]
   have il2 : (aO n.legs).length = n.legs.length := by simp [aO]
   rw [fD hjp]
   have M1 := M.putP X hjp u[j].to
   have M2 := M1.putL X (j := j) hjl (n.legs[j] + 1)
   obtain ⟨K1,eK1⟩ : ∃ K1,K1 = K.set ia (some (.row (aO (n.planes.set j u[j].to)))) := ⟨_,rfl⟩
   rw [← eK1] at M1 M2 ⊢
   have mc1 := M1.hc
   simp only [stC] at mc1
   obtain ⟨x5,x6,_,_⟩ := M1.l.use (j := j) hjl
   simp only at x5 x6
   have x6' := x6 []
   rw [List.append_nil] at x6'
   refine ⟨⟨by omega,by omega⟩,by omega,?_⟩
   simp only [go_sem,mc1,x6,x6',il2]
   rw [fD hjl]
   obtain ⟨K2,eK2⟩ : ∃ K2,K2 = K1.set ib (some (.row (aO (n.legs.set j (n.legs[j] + 1))))) := ⟨_,rfl⟩
   rw [← eK2] at M2 ⊢
   refine ⟨by omega,?_⟩
   have hmem := List.getElem_mem hj
   have hplq := (uk.ok dg.pe).pl _ hmem
   refine cT (S := Heap × List Int) (fun q _ => [(3,uv),(4,.ptr (.own h.length 0)),(5,.ptr (.own (h.length + 1) 0)),(8,.ptr (.own (h.length + 2) 0)),(13,.ptr (.own H3.length 0)),(14,.int .i64 j),(15,.int .i64 q)]) (fun _ st => st.1)
    (fun q st => MvI w0 G H3.length ⟨w1,w2,w3⟩ ia ib ie st.1 ⟨n.planes.set j u[j].to,n.legs.set j (n.legs[j] + 1),st.2⟩ ∧ st.2.length = s.people.length ∧ st.2 = (u[j].people.take q).foldl (fun l n => l.set n.toNat u[j].to) n.people) u[j].people.length (K2,n.people) ⟨M2,e3,rfl⟩ rfl rfl (fun q st hq Iq iq => ?_) (fun st Iq => ?_)
   · refine aC aJ aCN [3,4,5,8,13,14,15] L56_1.eq_1 ?_
     obtain ⟨K5,pe⟩ := st
     obtain ⟨F5,lpe,epe⟩ := Iq
     simp only at F5 lpe epe iq ⊢
     obtain ⟨fp,pv,f1,f2,f3,f4,f5⟩ := (hUG.sub F5.sub).at_ hj
     have f3' := f3 []
     have f4' := f4 []
     rw [List.append_nil] at f3' f4'
     have lpv := (SlI.use f5).1
     have e4 : (q : Int) < u[j].people.length := by omega
     obtain ⟨t,t1,t2,t3⟩ := SlI.at_ f5 hq
     have hx := (uk.pp _ hmem).1 _ (List.getElem_mem hq)
     obtain ⟨x,ex'⟩ : ∃ x : Nat,u[j].people[q] = x := ⟨u[j].people[q].toNat,by omega⟩
     have hxl : x < pe.length := by have := sk.s3; omega
     obtain ⟨v1,v2,v3,v4⟩ := F5.e.use (j := x) hxl
     simp only at v1 v2 v3
     have v2' := v2 []
     rw [List.append_nil] at v2'
     have an : u[j].people[q].toNat = x := by omega
     have hx0 := hx.1
     have il3 : (aO pe).length = pe.length := by simp [aO]
     have mc5 := F5.hc
     simp only [stC] at mc5
     simp only [go_sem,f1,f3,f3',f4,f4',lpv,e4,t1,t2,t3,an,hx0,mc5,v1,v2,v2',il3]
     rw [fD hxl]
     have F6 := F5.putE (j := x) X hxl u[j].to
     simp only at F6
     refine ⟨by omega,(by unfold I64; omega),?_⟩
     have := iq (K5.set ie (some (.row (aO (pe.set x u[j].to)))),pe.set x u[j].to) ⟨F6,by simp only [List.length_set]; exact lpe,by
      simp only
      rw [List.take_add_one,List.getElem?_eq_getElem hq,List.foldl_append,← epe]
      simp [ex']⟩
     simpa using this
   · refine aC aJ aCN [3,4,5,8,13,14,15] L56_1.eq_1 ?_
     obtain ⟨K5,pe⟩ := st
     obtain ⟨F5,lpe,epe⟩ := Iq
     simp only at F5 lpe epe ⊢
     obtain ⟨fp,pv,f1,f2,f3,f4,f5⟩ := (hUG.sub F5.sub).at_ hj
     have f4' := f4 []
     rw [List.append_nil] at f4'
     have lpv := (SlI.use f5).1
     have e4 : ¬ (u[j].people.length : Int) < u[j].people.length := by omega
     simp only [go_sem,f1,f4,f4',lpv,e4]
     rw [List.take_length] at epe
     have emv : gU n j u[j] = ⟨n.planes.set j u[j].to,n.legs.set j (n.legs[j] + 1),pe⟩ := by rw [gU,aH hjl,← epe]
     refine ⟨(by unfold I64; omega),?_⟩
     have := ih (K5,gU n j u[j]) ⟨by rw [emv]; exact F5,hm,?_,fun x hx => ?_⟩
     · simpa using this
     · have := vJ n j u[j]
       exact ⟨this.1.trans e1,this.2.1.trans e2,this.2.2.trans e3⟩
     · rw [emv] at hx
       rcases List.mem_or_eq_of_mem_set hx with hx | hx
       · have := lb x hx; omega
       · omega
 refine aC aJ aCM [3,4,5,8,13,14] L56_2.eq_1 ?_
 obtain ⟨K,n⟩ := st
 obtain ⟨M,hm,⟨e1,e2,e3⟩,lb⟩ := I
 simp only at M hm e1 e2 e3 lb ⊢
 have i4 : ¬ (u.length : Int) < u.length := by omega
 rw [List.drop_length,mvL] at hm
 have mc := M.hc
 simp only [stC] at mc
 have k0 := M.sub.2 _ _ g0
 have k1 := M.sub.2 _ _ g1
 have k2 := M.sub.2 _ _ g2
 simp only [go_sem,lu,i4,k0,mc,y1,y2,y3,y4,y5]
 refine aD (vS d v n w1 (hRG.sub M.sub).toDayS M.p.o.s hR.l1 (by have := sk.s1; omega)).v ?_
 rw [hm] at hF
 cases e5 : (List.range d.places.length).any (eO d n) with
 | true =>
  have z1 : (K.set (h.length + 2) (some (Blk.row [sv.pl,sv.le,sv.pe])))[h.length + 2]? = some (some (Blk.row [sv.pl,sv.le,sv.pe])) := List.getElem?_set_self (aK k2)
  simp only [go_sem,k1,k2,q1,q2,q3,z1]
  refine ⟨(sG.trans M.sub).setR (by omega),sv,?_⟩
  rw [hF,e5,if_pos rfl]
  exact ⟨rfl,hs.sub ((sG.trans M.sub).setR (by omega))⟩
 | false =>
  have z1 : (K.set (h.length + 2) (some (Blk.row [w1,w2,w3])))[h.length + 2]? = some (some (Blk.row [w1,w2,w3])) := List.getElem?_set_self (aK k2)
  simp only [go_sem,mc,k2,c1.1,c1.2,c2.1,c2.2,c3.1,c3.2,z1]
  have x1 := X.a0
  have x2 := X.b0
  have x3 := X.e0
  refine ⟨(sG.trans M.sub).setR (by omega),⟨w1,w2,w3⟩,?_⟩
  rw [hF,e5,if_neg (by simp)]
  exact ⟨rfl,(M.p.set (c' := [w1,w2,w3]) k2 rfl fun _ => by omega).o,(M.l.set (c' := [w1,w2,w3]) k2 rfl fun _ => by omega).o,(M.e.set (c' := [w1,w2,w3]) k2 rfl fun _ => by omega).o⟩
end Go.Proofs.Ab
namespace Go.Proofs.Ab
open Go Go.Proofs
variable {w : World} {h : Heap} {cs : List Value}
def aBJ : Rw := .sl (.int .nil) (.sl (.int .nil) (.sl (.int .nil) .nil))
def zQ : Rw := .int (.sl (.int .nil) .nil)
def aD8 : Rw := .sl zQ .nil
theorem aAT {v : Value} (g : nO w (.int .nil) v) : ∃ l : List Int,SlO w h (inj v) l ∧ l.length ≤ 9223372036854775807 := by
 obtain ⟨l,h1,h2⟩ := xC (h := h) g
 refine ⟨l,⟨h1,fun e => ?_⟩,h2⟩
 subst e
 rcases g with rfl | ⟨a,len,cap,rfl,h3,_,_⟩
 · rfl
 · have := (SlI.use h1).1
   simp only [inj,if_pos h3,eD,List.length_nil] at this ⊢
   have : len = 0 := by
    injection this with this
    injection this with _ this
    omega
   subst this
   simp [srcOf,dW,rdn]
theorem aEg (g : Gd w aBJ cs) : ∃ (s : aE) (v : StV),cs.map inj = stC v ∧ StS w h s v := by
 obtain ⟨v0,_,rfl,g0,v1,_,rfl,g1,v2,_,rfl,g2,rfl⟩ := g
 obtain ⟨l0,s0,_⟩ := aAT (h := h) g0
 obtain ⟨l1,s1,_⟩ := aAT (h := h) g1
 obtain ⟨l2,s2,_⟩ := aAT (h := h) g2
 exact ⟨⟨l0,l1,l2⟩,⟨inj v0,inj v1,inj v2⟩,rfl,⟨s0,s1,s2⟩⟩
theorem aDa {v : Value} (g : nO w zQ v) : ∃ u : List aF,UnV w h (inj v) u ∧ u.length ≤ 9223372036854775807 := by
 obtain ⟨rows,h1,h2,h3⟩ := wO (h := h) g
 obtain ⟨l,rfl,hl⟩ := pC (f := fun x : AV × aF => [.int .i64 x.2.to,x.1]) (p := fun x => SlI w h x.1 x.2.people) (rows := rows) fun c hc => by
  obtain ⟨cs,rfl,n,_,rfl,_,u,_,rfl,g2,rfl⟩ := h3 c hc
  obtain ⟨q,hq,_⟩ := xC (h := h) g2
  exact ⟨(inj u,⟨n,q⟩),rfl,hq⟩
 refine ⟨l.map Prod.snd,⟨_,by simp,h1,fun j x c hx hc => ?_⟩,by simpa using h2⟩
 simp only [List.getElem?_map,Option.map_eq_some_iff] at hx hc
 obtain ⟨a,a1,rfl⟩ := hx
 obtain ⟨b,b1,rfl⟩ := hc
 rw [a1] at b1; cases b1
 exact ⟨a.1,rfl,hl _ (List.mem_of_getElem? a1)⟩
theorem aG4 {v : Value} (g : Gd w aD8 [v]) : ∃ u : List aF,UnV w h (inj v) u ∧ u.length ≤ 9223372036854775807 := by
 obtain ⟨_,_,e,h,rfl⟩ := g
 cases e; exact aDa h
end Go.Proofs.Ab
namespace Go.Proofs.Ab
open Go Go.Proofs
variable {w0 : World} {h : Heap}
attribute [local irreducible] ACall aV aW aM aQ rvC rdC lp rg dr ex un rv rd'
theorem StS.nil {H : Heap} : StS w0 H ⟨[],[],[]⟩ ⟨.nilS,.nilS,.nilS⟩ := ⟨⟨.inl ⟨rfl,rfl⟩,fun _ => rfl⟩,⟨.inl ⟨rfl,rfl⟩,fun _ => rfl⟩,⟨.inl ⟨rfl,rfl⟩,fun _ => rfl⟩⟩
theorem xF {d : aP} {s : aE} {op : Int} {u : List aF} (e : iU d s op u = false) : uN d s op u = (⟨[],[],[]⟩,0,0,2) := by rw [uN,e,if_neg (by simp)]
theorem aBz (d : aP) (v : cF) (s : aE) (sv : StV) (op : Int) (u : List aF) (uv : AV) (hS : DayS w0 h d v) (hW : d.weathers.length ≤ 9223372036854775807) (hs : StS w0 h s sv) (hU : UnV w0 h uv u) (hu : u.length ≤ 9223372036854775807) :
 ACall Try.prog w0 13 [.agg (aS v),.agg (stC sv),.int .i64 op,uv] h fun y H => y = .bool true ∧ aB h H := by
 refine bB aJ aIA mf13_b mf13_g (Nat.le_of_ble_eq_true rfl) fun hb ha => aR ?_
 obtain ⟨y1,y2,y3,y4,y5⟩ := hS.ones
 obtain ⟨l1,l2,l3,l4,l5⟩ := hS.lens
 obtain ⟨q1,q2,q3⟩ := hs.ones
 obtain ⟨G,eG⟩ : ∃ G,G = h ++ [some (Blk.row [v.pl,v.ln,v.pn,v.pe,v.we]),some (Blk.row [sv.pl,sv.le,sv.pe])] := ⟨_,rfl⟩
 have sG : aB h G := eG ▸ aB.refl.app
 have gl : G.length = h.length + 2 := by rw [eG]; simp
 have g0 : G[h.length]? = some (some (.row [v.pl,v.ln,v.pn,v.pe,v.we])) := by rw [eG]; simp
 have g1 : G[h.length + 1]? = some (some (.row [sv.pl,sv.le,sv.pe])) := by rw [eG]; simp
 have b0 : ∀ L,(G ++ L)[h.length]? = some (some (.row [v.pl,v.ln,v.pn,v.pe,v.we])) := fun L => aA g0
 have b1 : ∀ L,(G ++ L)[h.length + 1]? = some (some (.row [sv.pl,sv.le,sv.pe])) := fun L => aA g1
 simp only [go_sem,mf13,aS,stC,y1,y2,y3,y4,y5,q1,q2,q3]
 rw [← eG]
 refine aD (aHg d v (hS.sub sG) hW).v ?_
 cases e1 : kN d with
 | false =>
  simp only [go_sem]
  refine aD iW.v ?_
  simp only [go_sem]
  exact sG
 | true =>
 simp only [go_sem,g1,b1,q1,q2,q3]
 refine aD (lean_c s sv (hs.sub sG)).v ?_
 cases e2 : vL s with
 | false =>
  simp only [go_sem]
  refine aD iW.v ?_
  simp only [go_sem]
  exact sG
 | true =>
 simp only [go_sem]
 refine aD (thin_c u uv (hU.sub sG) hu).v ?_
 cases e3 : yD u with
 | false =>
  simp only [go_sem]
  refine aD iW.v ?_
  simp only [go_sem]
  exact sG
 | true =>
 have hR := (hS.sub sG).R e1
 have hsG := hs.sub sG
 have hUG := hU.sub sG
 simp only [vL,Bool.and_eq_true,decide_eq_true_eq] at e2
 simp only [yD,Bool.and_eq_true,decide_eq_true_eq,List.all_eq_true] at e3
 simp only [go_sem,g0,b0,y1,y2,y3,y4,y5]
 refine aD (aKm d v hR).v ?_
 obtain ⟨ck,eck⟩ : ∃ ck : Int,ck = if dM d then 0 else 2 := ⟨_,rfl⟩
 rw [← eck]
 simp only [go_sem,g0,b0,g1,b1,y1,y2,y3,y4,y5,q1,q2,q3]
 refine aU (ACall.vc (first := []) (args := [_,_,_,_]) (Fly_c d v s sv op u uv hR hsG hUG (by omega) (by omega) (by omega) (by omega) fun x hx => by have := e3.1 x hx; omega)) ?_
 rintro y H1 ⟨s1,nv,rfl,hnv⟩
 obtain ⟨r,er⟩ : ∃ r,r = uN d s op u := ⟨_,rfl⟩
 rw [← er] at hnv ⊢
 obtain ⟨x1,x2,x3⟩ := hnv.ones
 simp only [go_sem,stC,x1,x2,x3]
 obtain ⟨K,eK⟩ : ∃ K,K = H1 ++ [some (Blk.row [nv.pl,nv.le,nv.pe])] := ⟨_,rfl⟩
 have s2 : aB H1 K := eK ▸ aB.refl.app
 have sK := s1.trans s2
 have k0 := sK.2 _ _ g0
 have k1 := sK.2 _ _ g1
 have k2 : K[H1.length]? = some (some (.row [nv.pl,nv.le,nv.pe])) := by rw [eK]; simp
 have k0L : ∀ L,(K ++ L)[h.length]? = some (some (.row [v.pl,v.ln,v.pn,v.pe,v.we])) := fun L => aA k0
 have k1L : ∀ L,(K ++ L)[h.length + 1]? = some (some (.row [sv.pl,sv.le,sv.pe])) := fun L => aA k1
 have k2L : ∀ L,(K ++ L)[H1.length]? = some (some (.row [nv.pl,nv.le,nv.pe])) := fun L => aA k2
 rw [← eK]
 have hnK := hnv.sub s2
 have hRK := hR.sub sK
 have hsK := hsG.sub sK
 have hUK := hUG.sub sK
 have hK := sG.trans sK
 simp only [go_sem,k0,k0L,k1,k1L,y1,y2,y3,y4,y5,q1,q2,q3]
 refine aD (Cost_c d v s sv hRK hsK (by omega) (by omega) (by omega)).v ?_
 obtain ⟨cv,ecv⟩ : ∃ cv : Int,cv = if (dM d && cY d s) = true then zZ d s else 0 := ⟨_,rfl⟩
 obtain ⟨ce,ece⟩ : ∃ ce : Int,ce = if (dM d && cY d s) = true then 0 else 2 := ⟨_,rfl⟩
 rw [← ecv,← ece]
 simp only [go_sem,k0,k0L,y1,y2,y3,y4,y5]
 refine aD (rday_c d v hRK).v ?_
 have same : ∀ {r1 : aE},StS w0 K r1 nv → r1 = ⟨[],[],[]⟩ → aM Try.prog w0 53 [.agg [nv.pl,nv.le,nv.pe],.agg [.nilS,.nilS,.nilS]] K (.bool true) K := fun {r1} hn e => by
  subst e
  have := rJ ⟨[],[],[]⟩ ⟨[],[],[]⟩ nv ⟨.nilS,.nilS,.nilS⟩ hn StS.nil (by simp) (by simp) (by simp)
  simpa [stC] using this
 cases e4 : dM d with
 | false =>
  have hr : r = (⟨[],[],[]⟩,0,0,2) := by rw [er]; exact xF (by simp [iU,e4])
  subst hr
  rw [e4] at eck ecv ece
  simp only [Bool.false_and,Bool.false_eq_true,if_false] at eck ecv ece
  subst eck ecv ece
  simp only [go_sem,k2,k2L,x1,x2,x3]
  refine aD (same hnK rfl).v ?_
  simp only [go_sem]
  refine aD iW.v ?_
  simp only [go_sem]
  exact hK
 | true =>
 have dg := qX e4
 rw [e4] at eck ecv ece
 simp only [Bool.true_and,if_true] at eck ecv ece
 subst eck
 simp only [go_sem,k0,k0L,k1,k1L,y1,y2,y3,y4,y5,q1,q2,q3]
 refine aD (aEx d v s sv hRK hsK (by omega) (by omega)).v ?_
 cases e5 : cY d s with
 | false =>
  have hr : r = (⟨[],[],[]⟩,0,0,2) := by rw [er]; exact xF (by simp [iU,e5])
  subst hr
  rw [e5] at ecv ece
  simp only [Bool.false_eq_true,if_false] at ecv ece
  subst ecv ece
  simp only [go_sem,k2,k2L,x1,x2,x3]
  refine aD (same hnK rfl).v ?_
  simp only [go_sem]
  refine aD iW.v ?_
  simp only [go_sem]
  exact hK
 | true =>
 rw [e5] at ecv ece
 simp only [if_true] at ecv ece
 subst ecv ece
 obtain ⟨sk,pat⟩ := qG e5
 simp only [go_sem,k0,k0L,k1,k1L,y1,y2,y3,y4,y5,q1,q2,q3]
 refine aD (aHp hRK hsK dg sk pat).v ?_
 have hsh := jR (n := d.places.length) (by have := dg.p1; omega)
 have hp50 : (2 ^ d.places.length : Nat) ≤ 2 ^ 50 := Nat.pow_le_pow_right (by omega) (by have := dg.p1; omega)
 have hp1 : 1 ≤ 2 ^ d.places.length := Nat.one_le_two_pow
 have fin3 : ∀ e : iU d s op u = false,r = (⟨[],[],[]⟩,0,0,2) := fun e => by rw [er]; exact xF e
 by_cases t1 : op < 0
 · have hr := fin3 (by simp [iU,kV,inB]; omega)
   subst hr
   simp only [go_sem,t1,k2,k2L,x1,x2,x3]
   refine aD (same hnK rfl).v ?_
   simp only [go_sem]
   refine aD iW.v ?_
   simp only [go_sem]
   exact hK
 by_cases t2 : ((2 ^ d.places.length : Nat) : Int) ≤ op
 · have hb : kV d.places.length op = false := by rw [kV,inB,Bool.and_eq_false_iff]; exact .inr (decide_eq_false (by omega))
   have hr := fin3 (by simp [iU,hb])
   subst hr
   simp only [go_sem,t1,t2,k0,k0L,l1,hsh,k2,k2L,x1,x2,x3]
   refine aD (same hnK rfl).v ?_
   simp only [go_sem]
   refine aD iW.v ?_
   simp only [go_sem]
   exact hK
 have hbit : kV d.places.length op = true := by rw [kV,inB,Bool.and_eq_true]; exact ⟨decide_eq_true (by omega),decide_eq_true (by omega)⟩
 simp only [go_sem,t1,t2,k0,k0L,l1,hsh,y1,y2,y3,y4,y5]
 refine aD (aHi d v u uv hRK hUK (by omega) fun x hx => by have := e3.1 x hx; omega).v ?_
 cases e6 : jX d u with
 | false =>
  have hr := fin3 (by simp [iU,e6])
  subst hr
  simp only [go_sem,k2,k2L,x1,x2,x3]
  refine aD (same hnK rfl).v ?_
  simp only [go_sem]
  refine aD iW.v ?_
  simp only [go_sem]
  exact hK
 | true =>
 have uk := aBI e6
 have hr : r = ((dG d s op u).1,(dG d s op u).2.1,(dG d s op u).2.2,0) := by rw [er,uN,if_pos (by simp [iU,e4,e5,e6,hbit])]
 subst hr
 simp only [go_sem,k0,k0L,k1,k1L,y1,y2,y3,y4,y5,q1,q2,q3]
 refine aU (ACall.vc (first := []) (args := [_,_,_,_]) (rfly_c d v s sv op u uv hRK hsK hUK dg sk uk (by omega) (by omega))) ?_
 rintro y H2 ⟨s3,mv,rfl,hmv⟩
 obtain ⟨m1,m2,m3⟩ := hmv.ones
 rw [aHj uk dg.pe] at hmv ⊢
 have k2' := s3.2 _ _ k2
 have k2L' : ∀ L,(H2 ++ L)[H1.length]? = some (some (.row [nv.pl,nv.le,nv.pe])) := fun L => aA k2'
 simp only [go_sem,stC,m1,m2,m3,k2',k2L',x1,x2,x3]
 have lens := zP d s op u
 have hsame := rJ (h := H2 ++ [some (Blk.row [mv.pl,mv.le,mv.pe])]) (dG d s op u).1 (dG d s op u).1 nv mv (hnK.sub (s3.trans aB.refl.app)) (hmv.sub aB.refl.app) (by omega) (by omega) (by omega)
 simp only [decide_true,Bool.and_true] at hsame
 refine aD hsame.v ?_
 simp only [go_sem]
 refine aD iW.v ?_
 simp only [go_sem]
 exact hK.trans (s3.trans aB.refl.app)
end Go.Proofs.Ab

/- The own layer under the proofs of this seat, part O: what calls of the program come to on an abstract heap. No condition. -/
import Derived.Test.YtiaaonmbgkealaaM
set_option linter.unusedSimpArgs false
set_option linter.unusedVariables false
namespace Go.Proofs.Ab
open Go Go.Proofs
variable {w0 : World} {h : Heap}
attribute [local irreducible] ACall aT aX aN aQ rvC rdC lp rg dr ex un rv rd'
section
variable {s : aC} {v : StV}
theorem StS.lens (a : StS w0 h s v) : eL v.pl = some (.int .i64 s.planes.length) ∧ eL v.le = some (.int .i64 s.legs.length) ∧ eL v.pe = some (.int .i64 s.people.length) := ⟨(SlI.use a.planes.s).1,(SlI.use a.legs.s).1,(SlI.use a.people.s).1⟩
theorem StS.ones (a : StS w0 h s v) : one v.pl = true ∧ one v.le = true ∧ one v.pe = true := ⟨a.planes.s.one.1,a.legs.s.one.1,a.people.s.one.1⟩
theorem SlI.at_ {x : AV} {l : List Int} (a : SlI w0 h x l) {j : Nat} (hj : j < l.length) : ∃ p : Pl,bY 1 x (some j) = some (.ptr p) ∧ (∀ L,rd w0 (h ++ L) p = some (.int .i64 l[j])) ∧ rd w0 h p = some (.int .i64 l[j]) := by
 obtain ⟨_,q,qi,qr⟩ := SlI.use a
 have := qr j hj []
 rw [List.append_nil] at this
 exact ⟨_,qi j hj,qr j hj,this⟩
end
theorem UnV.at_ {u : List aF} {v : AV} (a : UnV w0 h v u) {j : Nat} (hj : j < u.length) : ∃ (p : Pl) (pv : AV),bY 2 v (some j) = some (.ptr p) ∧ (∀ L,rdn w0 (h ++ L) p 2 = some [.int .i64 u[j].to,pv]) ∧ (∀ L,rd w0 (h ++ L) (p.add 0) = some (.int .i64 u[j].to)) ∧ (∀ L,rd w0 (h ++ L) (p.add 1) = some pv) ∧ SlI w0 h pv u[j].people := by
 obtain ⟨p,c,p1,p2,pv,rfl,p3⟩ := NS.at_ a hj
 exact ⟨p,pv,p1,p2,fun L => cQ (p2 L) rfl,fun L => cQ (p2 L) rfl,p3⟩
def cZ (d : aO) (s : aC) : Bool := decide (s.planes.length = d.planes.length) && (decide (s.legs.length = d.planes.length) && (decide (s.people.length = d.people.length) && (s.planes.all (bI d.places.length) && (s.people.all (bI d.places.length) && s.legs.all fun x => inB x 0 5))))
theorem aET (d : aO) (v : cC) (s : aC) (sv : StV) (hR : iP w0 h d v) (hS : StS w0 h s sv) (m1 : s.planes.length < 1000000) (m3 : s.people.length < 1000000) : aN Try.prog w0 49 [.agg (aV v),.agg (stC sv)] h (.bool (cZ d s)) h := by
 refine aI aL aIf mf49_b mf49_g (Nat.le_of_ble_eq_true rfl) (by simp [AV.bdd,AV.bdds]) fun hb ha => aU ?_
 obtain ⟨l1,l2,l3,l4,l5⟩ := hR.lens
 obtain ⟨o1,o2,o3,o4,o5⟩ := hR.ones
 obtain ⟨k1,k2,k3⟩ := hS.lens
 obtain ⟨q1,q2,q3⟩ := hS.ones
 have n1 := hR.l1
 simp only [go_sem,mf49,aV,stC,o1,o2,o3,o4,o5,q1,q2,q3,l3,l4,k1,k2,k3]
 refine ⟨fun e1 => ⟨fun e2 => ⟨fun e3 => ?_,fun e3 => ?_⟩,fun e2 => ?_⟩,fun e1 => ?_⟩
 · have : s.people.length ≠ d.people.length := by omega
   simp [cZ,this]
 · have e1' : s.planes.length = d.planes.length := by omega
   have e2' : s.legs.length = d.planes.length := by omega
   have e3' : s.people.length = d.people.length := by omega
   have hin : ∀ x : Int,inB x 0 ((d.places.length : Int) - 1) = bI d.places.length x := fun x => rfl
   have c0 : cZ d s = (s.planes.all (bI d.places.length) && (s.people.all (bI d.places.length) && s.legs.all fun x => inB x 0 5)) := by simp [cZ,e1',e2',e3']
   have p1 : ∀ L,(h ++ [some (Blk.row (aV v)),some (Blk.row (stC sv))] ++ L)[h.length]? = some (some (.row (aV v))) := fun L => aA (by simp)
   refine cR (fun j => [(2,.ptr (.own h.length 0)),(3,.ptr (.own (h.length + 1) 0)),(5,.int .i64 j)]) (fun j => bI d.places.length (s.planes.getD j 0) = true ∧ inB (s.legs.getD j 0) 0 5 = true) s.planes.length rfl (fun j hj hall ih => ?_) (fun f1 => ?_)
   · refine aD aL aC3 [2,3,5] L49_0.eq_1 ?_
     have i3 : (j : Int) < s.planes.length := by omega
     have hj2 : j < s.legs.length := by omega
     obtain ⟨a,a1,a2,_⟩ := hS.planes.s.at_ hj
     obtain ⟨b,b1,b2,_⟩ := hS.legs.s.at_ hj2
     rw [aE hj,aE hj2] at ih
     simp only [go_sem,k1,i3,a1,a2,l1]
     refine ⟨(by unfold I64; omega),?_⟩
     refine dE (fP _ _ _).v ?_
     rw [hin]
     cases e5 : bI d.places.length s.planes[j] with
     | false =>
      simp only [go_sem]
      rw [c0,List.all_eq_false.2 ⟨_,List.getElem_mem hj,by simp [e5]⟩]; rfl
     | true =>
     simp only [go_sem,b1,b2]
     refine dE (fP _ _ _).v ?_
     cases e6 : inB s.legs[j] 0 5 with
     | false =>
      simp only [go_sem]
      have : (s.legs.all fun x => inB x 0 5) = false := List.all_eq_false.2 ⟨_,List.getElem_mem hj2,by simp [e6]⟩
      rw [c0,this]; simp
     | true =>
      simp only [go_sem]
      exact ⟨(by unfold I64; omega),ih ⟨e5,e6⟩⟩
   refine aD aL aC3 [2,3,5] L49_0.eq_1 ?_
   have x1 : ¬ (s.planes.length : Int) < s.planes.length := by omega
   simp only [go_sem,k1,x1]
   refine cR (fun j => [(2,.ptr (.own h.length 0)),(3,.ptr (.own (h.length + 1) 0)),(6,.int .i64 j)]) (fun j => bI d.places.length (s.people.getD j 0) = true) s.people.length rfl (fun j hj hall ih => ?_) (fun f2 => ?_)
   · refine aD aL aC2 [2,3,6] L49_1.eq_1 ?_
     have i3 : (j : Int) < s.people.length := by omega
     obtain ⟨a,a1,a2,_⟩ := hS.people.s.at_ hj
     rw [aE hj] at ih
     simp only [go_sem,k3,i3,a1,a2,l1]
     refine ⟨(by unfold I64; omega),?_⟩
     refine dE (fP _ _ _).v ?_
     rw [hin]
     cases e5 : bI d.places.length s.people[j] with
     | false =>
      simp only [go_sem]
      have : s.people.all (bI d.places.length) = false := List.all_eq_false.2 ⟨_,List.getElem_mem hj,by simp [e5]⟩
      rw [c0,this]; simp
     | true =>
      simp only [go_sem]
      exact ⟨(by unfold I64; omega),ih e5⟩
   refine aD aL aC2 [2,3,6] L49_1.eq_1 ?_
   have x2 : ¬ (s.people.length : Int) < s.people.length := by omega
   simp only [go_sem,k3,x2]
   have g1 : s.planes.all (bI d.places.length) = true := by rw [← cI (x := 0)]; exact bQ.2 fun i hi => (f1 i hi).1
   have g2 : s.people.all (bI d.places.length) = true := by rw [← cI (x := 0)]; exact bQ.2 f2
   have g3 : (s.legs.all fun x => inB x 0 5) = true := by rw [← cI (x := 0)]; exact bQ.2 fun i hi => (f1 i (by omega)).2
   rw [c0,g1,g2,g3]; rfl
 · have : s.legs.length ≠ d.planes.length := by omega
   simp [cZ,this]
 · have : s.planes.length ≠ d.planes.length := by omega
   simp [cZ,this]
end Go.Proofs.Ab
namespace Go.Proofs.Ab
open Go Go.Proofs
variable {w0 : World} {h : Heap}
attribute [local irreducible] ACall aT aX aN aQ rvC rdC lp rg dr ex un rv rd'
def pkB (m : Nat) (l : List Int) (k : Nat) : Bool := inB (l.getD k 0) 0 ((m : Int) - 1) && (decide (k = 0) || decide (l.getD (k - 1) 0 < l.getD k 0))
def flB (d : aO) (x : aF) : Bool := (inB x.to (-1) ((d.places.length : Int) - 1) && (decide (0 ≤ x.to) || decide (x.people.length = 0))) && (List.range x.people.length).all (pkB d.people.length x.people)
def eM (d : aO) (u : List aF) : Bool := u.all (flB d) && decide (u.length = d.planes.length)
theorem pk_lt {m : Nat} {l : List Int} (h : (List.range l.length).all (pkB m l) = true) : (∀ n ∈ l,0 ≤ n ∧ n < m) ∧ l.Pairwise (· < ·) := by
 have h1 := bQ.1 h
 refine ⟨fun n hn => ?_,?_⟩
 · obtain ⟨i,hi,rfl⟩ := List.getElem_of_mem hn
   have := h1 i hi
   simp only [pkB,aE hi,inB,Bool.and_eq_true,decide_eq_true_eq] at this
   omega
 · rw [List.pairwise_iff_getElem]
   have key : ∀ (k i j : Nat) (hi : i < l.length) (hj : j < l.length),j = i + 1 + k → l[i] < l[j] := by
    intro k
    induction k with
    | zero =>
     intro i j hi hj e
     have := h1 j hj
     simp only [pkB,aE hj,Bool.and_eq_true,Bool.or_eq_true,decide_eq_true_eq] at this
     have h2 : l.getD (j - 1) 0 = l[i] := by rw [show j - 1 = i by omega,aE hi]
     rw [h2] at this
     omega
    | succ k ih =>
     intro i j hi hj e
     have a := ih i (j - 1) hi (by omega) (by omega)
     have := h1 j hj
     simp only [pkB,aE hj,Bool.and_eq_true,Bool.or_eq_true,decide_eq_true_eq,aE (show j - 1 < l.length by omega)] at this
     omega
   exact fun i j hi hj hij => key (j - i - 1) i j hi hj (by omega)
theorem aB3 {d : aO} {u : List aF} (h : eM d u = true) : aAK d u := by
 simp only [eM,flB,Bool.and_eq_true,List.all_eq_true,decide_eq_true_eq] at h
 obtain ⟨h1,h2⟩ := h
 have h3 : ∀ x ∈ u,(List.range x.people.length).all (pkB d.people.length x.people) = true := fun x hx => List.all_eq_true.2 (h1 x hx).2
 refine ⟨h2,fun x hx => ?_,fun x hx ht => ?_,fun x hx => pk_lt (h3 x hx)⟩
 · have := (h1 x hx).1.1
   simp only [inB,Bool.and_eq_true,decide_eq_true_eq] at this
   omega
 · have := (h1 x hx).1.2
   simp only [Bool.or_eq_true,decide_eq_true_eq] at this
   exact List.eq_nil_of_length_eq_zero (by omega)
theorem aAK.ok {d : aO} {u : List aF} (a : aAK d u) (h4 : d.people.length ≤ 4) : aBS d u := by
 refine ⟨a.len,fun x hx => (a.to x hx).2,fun x hx => (a.pp x hx).1,fun x hx => ?_⟩
 obtain ⟨h1,h2⟩ := a.pp x hx
 have key : ∀ (l : List Int) (b : Int),l.Pairwise (· < ·) → (∀ n ∈ l,b ≤ n ∧ n < 4) → (l.length : Int) ≤ 4 - b ∨ l = [] := by
  intro l
  induction l with
  | nil => intro b _ _; exact .inr rfl
  | cons a l ih =>
   intro b hp hb
   obtain ⟨p1,p2⟩ := List.pairwise_cons.1 hp
   have hab := hb a (by simp)
   rcases ih (a + 1) p2 (fun n hn => ⟨by have := p1 n hn; omega,(hb n (by simp [hn])).2⟩) with h | h
   · left; simp; omega
   · subst h; left; simp; omega
 rcases key x.people 0 h2 (fun n hn => by have := h1 n hn; omega) with h | h
 · omega
 · rw [h]; simp
theorem aHD (d : aO) (v : cC) (u : List aF) (uv : AV) (hR : iP w0 h d v) (hU : UnV w0 h uv u) (hn : u.length < 1000000) (hp : ∀ x ∈ u,x.people.length < 1000000) : aN Try.prog w0 55 [.agg (aV v),uv] h (.bool (eM d u)) h := by
 refine mC trivial (bD aL aIe mf55_b mf55_g (Nat.le_of_ble_eq_true rfl) fun hb ha => aU ?_)
 obtain ⟨l1,l2,l3,l4,l5⟩ := hR.lens
 obtain ⟨o1,o2,o3,o4,o5⟩ := hR.ones
 have n1 := hR.l1
 have n4 := hR.l4
 have lu := NS.len hU
 obtain ⟨K0,eK0⟩ : ∃ K0 : Heap,K0 = h ++ [some (.row (aV v))] := ⟨_,rfl⟩
 have s0 : aB h K0 := eK0 ▸ aB.refl.app
 have g0 : K0[h.length]? = some (some (.row (aV v))) := by rw [eK0]; simp
 have hU0 := hU.sub s0
 simp only [go_sem,mf55,o1,o2,o3,o4,o5]
 rw [show h ++ [some (Blk.row [v.pl,v.ln,v.pn,v.pe,v.we])] = K0 by rw [eK0]; rfl]
 refine fS (S := Nat × Heap) (F := fun s => [(1,uv),(2,.ptr (.own h.length 0)),(5,.int .i64 s.1)]) (H := fun s => s.2) (meas := fun s => u.length - s.1)
  (Inv := fun s => s.1 ≤ u.length ∧ aB K0 s.2 ∧ ∀ (j : Nat) (_ : j < s.1) (hj : j < u.length),flB d u[j] = true) (0,K0) ⟨Nat.zero_le _,aB.refl,fun j hj => absurd hj (by simp)⟩ rfl rfl ?_
 rintro ⟨j,G⟩ ⟨hj,sG,f1⟩ ih
 simp only at hj sG f1 ih
 refine aD aL aKl [1,2,5] L55_1.eq_1 ?_
 have gG := sG.2 _ _ g0
 have bG : ∀ L,(G ++ L)[h.length]? = some (some (.row (aV v))) := fun L => aA gG
 rcases Nat.lt_or_ge j u.length with hjl | hjl
 · have i3 : (j : Int) < u.length := by omega
   obtain ⟨p,pv,p1,p2K,_,_,p5⟩ := hU0.at_ hjl
   obtain ⟨x,ex⟩ : ∃ x,x = u[j] := ⟨_,rfl⟩
   rw [← ex] at p2K p5
   have p2 : ∀ L,rdn w0 (G ++ L) p 2 = some [.int .i64 x.to,pv] := fun L => (sG.app (L := L)).rdn (by simpa using p2K [])
   have p2' := p2 []
   rw [List.append_nil] at p2'
   have opv := p5.one.1
   have cpv := p5.one.2
   have lpp := (SlI.use p5).1
   have hnp := hp x (by rw [ex]; exact List.getElem_mem hjl)
   have sG2 : ∀ L,aB h (G ++ L) := fun L => s0.trans sG.app
   have hno : flB d x = false → eM d u = false := fun e => by
    have : u.all (flB d) = false := List.all_eq_false.2 ⟨x,by rw [ex]; exact List.getElem_mem hjl,by simp [e]⟩
    simp [eM,this]
   obtain ⟨b6,eb6⟩ : ∃ b,b = G.length := ⟨_,rfl⟩
   have g6 : (G ++ [some (.row [.int .i64 x.to,pv])])[b6]? = some (some (.row [.int .i64 x.to,pv])) := by rw [eb6]; simp
   have g6L : ∀ L,(G ++ [some (.row [.int .i64 x.to,pv])] ++ L)[b6]? = some (some (.row [.int .i64 x.to,pv])) := fun L => aA g6
   simp only [go_sem,lu,i3,gG,bG,aV,p1,p2,p2',opv,cpv,l1]
   refine ⟨(by unfold I64; omega),?_⟩
   refine aH (fP _ _ _).v ?_
   cases e1 : inB x.to (-1) ((d.places.length : Int) - 1) with
   | false =>
    simp only [go_sem]
    exact ⟨sG2 _,by rw [hno (by simp [flB,e1])]⟩
   | true =>
   by_cases t0 : x.to < 0
   focus
    simp only [go_sem,t0,opv,cpv,lpp]
    refine ⟨fun e => ⟨sG2 _,by rw [hno (by
     have h1 : ¬ 0 ≤ x.to := by omega
     have h2 : ¬ x.people.length = 0 := by omega
     simp only [flB,decide_eq_false h1,decide_eq_false h2,Bool.or_false,Bool.and_false,Bool.false_and])]⟩,fun e => ?_⟩
    have e2 : (decide (0 ≤ x.to) || decide (x.people.length = 0)) = true := by
     have : x.people.length = 0 := by omega
     rw [decide_eq_true this,Bool.or_true]
    clear e
   rotate_left
   focus
    simp only [go_sem,t0]
    have e2 : (decide (0 ≤ x.to) || decide (x.people.length = 0)) = true := by
     have : 0 ≤ x.to := by omega
     rw [decide_eq_true this,Bool.true_or]
   all_goals
    rw [← eb6]
    refine cR (fun k => [(1,uv),(2,.ptr (.own h.length 0)),(5,.int .i64 j),(6,.ptr (.own b6 0)),(7,.int .i64 k)]) (fun k => pkB d.people.length x.people k = true) x.people.length rfl (fun k hk _ ih2 => ?_) (fun f2 => ?_)
    · refine aD aL aC1 [1,2,5,6,7] L55_0.eq_1 ?_
      have i4 : (k : Int) < x.people.length := by omega
      obtain ⟨a,a1,a2K,_⟩ := SlI.at_ p5 hk
      have hsG6 : ∀ L,aB K0 (G ++ [some (.row [.int .i64 x.to,pv])] ++ L) := fun L => sG.app.app
      have a2 : ∀ L,rd w0 (G ++ [some (.row [.int .i64 x.to,pv])] ++ L) a = some (.int .i64 x.people[k]) := fun L => (hsG6 L).rd (by simpa using a2K [])
      have a2' := a2 []
      have gG6 : (G ++ [some (Blk.row [.int .i64 x.to,pv])])[h.length]? = some (some (.row (aV v))) := bG _
      have bG6 : ∀ L,(G ++ [some (Blk.row [.int .i64 x.to,pv])] ++ L)[h.length]? = some (some (.row (aV v))) := fun L => aA gG6
      rw [List.append_nil] at a2'
      have hpk : pkB d.people.length x.people k = (inB x.people[k] 0 ((d.people.length : Int) - 1) && (decide (k = 0) || decide (x.people.getD (k - 1) 0 < x.people[k]))) := by rw [pkB,aE hk]
      have hno2 : pkB d.people.length x.people k = false → eM d u = false := fun e => hno (by
       have : (List.range x.people.length).all (pkB d.people.length x.people) = false := List.all_eq_false.2 ⟨k,List.mem_range.2 hk,by simp [e]⟩
       simp only [flB,this,Bool.and_false])
      obtain ⟨G6,eG6⟩ : ∃ G6,G6 = G ++ [some (Blk.row [.int .i64 x.to,pv])] := ⟨_,rfl⟩
      rw [← eG6] at g6 g6L a2 a2' gG6 bG6 ⊢
      rw [← eG6] at ih2
      simp only [go_sem,g6,g6L,i4,lpp,a1,a2,a2',gG6,bG6,aV,l4]
      refine ⟨(by unfold I64; omega),?_⟩
      refine dE (fP _ _ _).v ?_
      cases e3 : inB x.people[k] 0 ((d.people.length : Int) - 1) with
      | false =>
       simp only [go_sem]
       exact ⟨eG6 ▸ sG2 _,by rw [hno2 (by rw [hpk,e3]; rfl)]⟩
      | true =>
      rcases k with _ | m
      · simp only [go_sem]
        exact ⟨fun e => absurd e (by simp),fun _ => ⟨(by unfold I64; omega),ih2 (by rw [hpk,e3]; rfl)⟩⟩
      · have hm : m < x.people.length := by omega
        have c0 : (0 : Int) < ((m + 1 : Nat) : Int) := by omega
        have ek : (((m + 1 : Nat) : Int) - 1) = (m : Int) := by omega
        obtain ⟨b,b1,b2K,_⟩ := SlI.at_ p5 hm
        have b2 : ∀ L,rd w0 (G6 ++ L) b = some (.int .i64 x.people[m]) := fun L => by rw [eG6]; exact (hsG6 L).rd (by simpa using b2K [])
        have b2' := b2 []
        rw [List.append_nil] at b2'
        have hpk2 : pkB d.people.length x.people (m + 1) = decide (x.people[m] < x.people[m + 1]) := by
         rw [hpk,e3,Nat.add_sub_cancel,aE hm]; simp
        simp only [go_sem,c0,g6,g6L,a1,a2,a2',ek,b1,b2,b2']
        refine ⟨(by unfold I64; omega),fun e => ?_,fun e => ⟨(by unfold I64; omega),ih2 (by rw [hpk2]; exact decide_eq_true (by omega))⟩⟩
        exact ⟨eG6 ▸ sG2 _,by rw [hno2 (by rw [hpk2]; exact decide_eq_false (by omega))]⟩
    · refine aD aL aC1 [1,2,5,6,7] L55_0.eq_1 ?_
      have i4 : ¬ (x.people.length : Int) < x.people.length := by omega
      simp only [go_sem,g6,g6L,i4,lpp]
      have hyes : flB d x = true := by rw [flB,e1,e2,bQ.2 f2]; rfl
      have := ih (j + 1,G ++ [some (.row [.int .i64 x.to,pv])]) ⟨by simp only; omega,sG.app,fun q hq hq2 => by
       simp only at hq
       rcases Nat.lt_or_ge q j with h1 | h1
       · exact f1 q h1 hq2
       · obtain rfl : q = j := by omega
         rw [← ex]; exact hyes⟩ (by simp only; omega)
      exact ⟨(by unfold I64; omega),by simpa using this⟩
 · have i3 : ¬ (j : Int) < u.length := by omega
   obtain rfl : j = u.length := by omega
   simp only [go_sem,lu,i3,gG,bG,aV,l3]
   refine ⟨s0.trans sG,?_⟩
   have h1 : u.all (flB d) = true := List.all_eq_true.2 fun y hy => by
    obtain ⟨i,hi,rfl⟩ := List.getElem_of_mem hy
    exact f1 i hi hi
   rw [eM,h1,Bool.true_and]
   have : ((u.length : Int) == d.planes.length) = decide (u.length = d.planes.length) := by
    rw [Bool.eq_iff_iff]; simp; omega
   rw [this]
end Go.Proofs.Ab
namespace Go.Proofs.Ab
open Go Go.Proofs
variable {w0 : World} {h : Heap}
attribute [local irreducible] ACall aT aX aN aQ rvC rdC lp rg dr ex un rv rd'
theorem aBR (l : List Int) (v fv : AV) (p : Nat → Bool) (hv : SlI w0 h v l) (hn : l.length < 1000000) (hf : ∀ (j : Nat) (hj : j < l.length) L,aQ Try.prog w0 fv [.int .i64 j,.int .i64 l[j]] (h ++ L) (.bool (p j)) (h ++ L)) :
 aN Try.prog w0 69 [v,fv] h (.bool ((List.range l.length).all p)) h := by
 have := yH (l.map fun z => [AV.int .i64 z]) v fv p hv (by intro r hr; obtain ⟨z,_,rfl⟩ := List.mem_map.1 hr; rfl) (by simpa using hn) fun j x hx _ L => by
  have hj : j < l.length := by have := aK hx; simpa using this
  have : x = .int .i64 l[j] := by simpa [hj] using hx.symm
  subst this
  exact hf j hj L
 rwa [List.length_map] at this
section
variable {d : aO} {v : cC} {m : AV} {i ib : Nat}
theorem aBp (j x : Int) (hd : h[i]? = some (some (.row (aV v ++ [m])))) (hR : iP w0 h d v) (hi : h[ib]? = some (some (.row [.ptr (.own i 0)]))) : aN Try.prog w0 130 [.int .i64 j,.int .i64 x,.ptr (.own ib 0)] h (.bool (bI d.places.length x)) h := by
 refine aI aL aFr aI3 aI2 (Nat.le_of_ble_eq_true rfl) (by simp [AV.bdd,AV.bdds]) fun hb ha => aU ?_
 have l1 := hR.lens.1
 have n1 := hR.l1
 have bi : ∀ L,(h ++ L)[ib]? = some (some (.row [.ptr (.own i 0)])) := fun L => aA hi
 have bd : ∀ L,(h ++ L)[i]? = some (some (.row (aV v ++ [m]))) := fun L => aA hd
 simp only [aV,List.cons_append,List.nil_append] at bd
 simp only [go_sem,mf130,bi,bd,l1]
 refine ⟨(by unfold I64; omega),?_⟩
 refine aH (jF _ _ _).v ?_
 simp only [go_sem]
 rfl
theorem aFZ (j x : Int) : aN Try.prog w0 131 [.int .i64 j,.int .i64 x] h (.bool (inB x 0 5)) h := by
 refine aI aL aFq aI1 aI0 (Nat.le_of_ble_eq_true rfl) (by simp [AV.bdd,AV.bdds]) fun hb ha => aU ?_
 simp only [go_sem,mf131]
 refine aH (jF _ _ _).v ?_
 simp only [go_sem]
theorem yY (s : aC) (sv : StV) (hd : h[i]? = some (some (.row (aV v ++ [m])))) (hR : iP w0 h d v) (hS : StS w0 h s sv) (m1 : s.planes.length < 1000000) (m2 : s.legs.length < 1000000) (m3 : s.people.length < 1000000) : aN Try.prog w0 90 [.ptr (.own i 0),.agg (stC sv)] h (.bool (cZ d s)) h := by
 refine aI aL aHT mf90_b mf90_g (Nat.le_of_ble_eq_true rfl) (by simp [AV.bdd,AV.bdds]) fun hb ha => aU ?_
 obtain ⟨l1,l2,l3,l4,l5⟩ := hR.lens
 obtain ⟨k1,k2,k3⟩ := hS.lens
 obtain ⟨q1,q2,q3⟩ := hS.ones
 have hil := aK hd
 have bd : ∀ L,(h ++ L)[i]? = some (some (.row (aV v ++ [m]))) := fun L => aA hd
 have e1 : ∀ a b : Nat,((a : Int) == b) = decide (a = b) := fun a b => by rw [Bool.eq_iff_iff]; simp; omega
 simp only [aV,List.cons_append,List.nil_append] at bd
 simp only [go_sem,mf90,stC,q1,q2,q3,bd,k1,k2,k3,l3,l4,e1]
 refine ⟨fun e2 => ⟨fun e3 => ⟨fun e4 => ?_,fun e4 => by simp [cZ,e4]⟩,fun e3 => by simp [cZ,e3]⟩,fun e2 => by simp [cZ,e2]⟩
 obtain ⟨G,eG⟩ : ∃ G,G = h ++ [some (Blk.row [AV.ptr (Pl.own i 0)]),some (Blk.row [sv.pl,sv.le,sv.pe])] := ⟨_,rfl⟩
 have sG : aB h G := eG ▸ aB.refl.app
 have gi : G[h.length]? = some (some (.row [.ptr (.own i 0)])) := by rw [eG]; simp
 have gs : G[h.length + 1]? = some (some (.row [sv.pl,sv.le,sv.pe])) := by rw [eG]; simp
 have gsL : ∀ L,(G ++ L)[h.length + 1]? = some (some (.row [sv.pl,sv.le,sv.pe])) := fun L => aA gs
 rw [← eG]
 have hpl : ∀ L (l : List Int) (x : AV),SlI w0 h x l → l.length < 1000000 → aN Try.prog w0 69 [x,AV.fn (Fn.func 130) [] [AV.ptr (Pl.own h.length 0)]] (G ++ L) (.bool (l.all (bI d.places.length))) (G ++ L) := fun L l x hx hl => by
  rw [← cI (x := 0)]
  refine aBR l x _ _ (Sl.sub hx (sG.trans aB.refl.app)) hl fun j hj L2 => ?_
  rw [aE hj]
  exact (aBp (i := i) (v := v) (m := m) j l[j] ((sG.app.app).2 _ _ hd) (hR.sub (sG.app.app)) (by rw [List.append_assoc]; exact aA gi)).vc (first := []) (capt := [_])
 have hpl0 := fun l x => hpl [] l x
 simp only [List.append_nil] at hpl0
 refine dE (hpl0 s.planes sv.pl hS.planes.s m1).v ?_
 cases f1 : s.planes.all (bI d.places.length) with
 | false => simp only [go_sem]; exact ⟨by simp [cZ,f1],_,eG⟩
 | true =>
 simp only [go_sem,gs,gsL]
 refine dE (hpl0 s.people sv.pe hS.people.s m3).v ?_
 cases f2 : s.people.all (bI d.places.length) with
 | false => simp only [go_sem]; exact ⟨by simp [cZ,f2],_,eG⟩
 | true =>
 simp only [go_sem,gs,gsL]
 have leg : aN Try.prog w0 69 [sv.le,AV.fn (Fn.func 131) [] []] G (.bool (s.legs.all fun x => inB x 0 5)) G := by
  rw [← cI (x := 0)]
  refine aBR s.legs sv.le _ _ (Sl.sub hS.legs.s sG) m2 fun j hj L2 => ?_
  rw [aE hj]
  exact (aFZ j s.legs[j]).vc (first := []) (capt := [])
 refine dE leg.v ?_
 simp only [go_sem]
 exact ⟨by simp [cZ,e2,e3,e4,f1,f2],_,eG⟩
end
section
variable {d : aO} {v : cC} {m : AV} {i ib ix : Nat}
theorem aHO (x : aF) (pv : AV) (k : Nat) (hk : k < x.people.length) (hd : h[i]? = some (some (.row (aV v ++ [m])))) (hR : iP w0 h d v) (hi : h[ib]? = some (some (.row [.ptr (.own i 0)]))) (hx : h[ix]? = some (some (.row [.int .i64 x.to,pv]))) (hp : SlI w0 h pv x.people) (hl : x.people.length < 1000000) :
 aN Try.prog w0 135 [.int .i64 k,.int .i64 x.people[k],.ptr (.own ib 0),.ptr (.own ix 0)] h (.bool (pkB d.people.length x.people k)) h := by
 refine aI aL aFn aIV aIU (Nat.le_of_ble_eq_true rfl) (by simp [AV.bdd,AV.bdds]) fun hb ha => aU ?_
 obtain ⟨l1,l2,l3,l4,l5⟩ := hR.lens
 have n4 := hR.l4
 have bi : ∀ L,(h ++ L)[ib]? = some (some (.row [.ptr (.own i 0)])) := fun L => aA hi
 have bx : ∀ L,(h ++ L)[ix]? = some (some (.row [.int .i64 x.to,pv])) := fun L => aA hx
 have bd : ∀ L,(h ++ L)[i]? = some (some (.row (aV v ++ [m]))) := fun L => aA hd
 simp only [aV,List.cons_append,List.nil_append] at bd
 have bi' := bi []
 have bx' := bx []
 have bd' := bd []
 simp only [List.append_nil] at bi' bx' bd'
 have hpk : pkB d.people.length x.people k = (inB x.people[k] 0 ((d.people.length : Int) - 1) && (decide (k = 0) || decide (x.people.getD (k - 1) 0 < x.people[k]))) := by rw [pkB,aE hk]
 rw [hpk]
 simp only [go_sem,mf135,bi,bd,bx,l4]
 refine ⟨(by unfold I64; omega),?_⟩
 refine aH (jF _ _ _).v ?_
 cases e1 : inB x.people[k] 0 ((d.people.length : Int) - 1) with
 | false => simp only [go_sem]; rfl
 | true =>
 rcases k with _ | k
 · simp only [go_sem]
   exact ⟨fun e => absurd rfl e,fun _ => rfl⟩
 have hk2 : k < x.people.length := by omega
 obtain ⟨a,a1,a2,a3⟩ := SlI.at_ hp hk2
 have ek : (((k + 1 : Nat) : Int) - 1) = (k : Int) := by omega
 have c0 : (((k + 1 : Nat) : Int) == 0) = false := by simp; omega
 simp only [go_sem,bi',bd',bx',bi,bd,bx,ek,a1,a2,a3,c0]
 refine ⟨(by unfold I64; omega),?_⟩
 rw [Nat.add_sub_cancel,aE hk2,Bool.false_or]
theorem aAo (j : Nat) (x : aF) (pv : AV) (hd : h[i]? = some (some (.row (aV v ++ [m])))) (hR : iP w0 h d v) (hi : h[ib]? = some (some (.row [.ptr (.own i 0)]))) (hp : SlI w0 h pv x.people) (hl : x.people.length < 1000000) :
 aN Try.prog w0 134 [.int .i64 j,.agg [.int .i64 x.to,pv],.ptr (.own ib 0)] h (.bool (flB d x)) h := by
 refine aI aL aFo aIX aIW (Nat.le_of_ble_eq_true rfl) (by simp [AV.bdd,AV.bdds]) fun hb ha => aU ?_
 obtain ⟨l1,l2,l3,l4,l5⟩ := hR.lens
 have n1 := hR.l1
 have k1 := (SlI.use hp).1
 have o1 := hp.one.1
 obtain ⟨G,eG⟩ : ∃ G,G = h ++ [some (Blk.row [.int .i64 x.to,pv])] := ⟨_,rfl⟩
 have sG : aB h G := eG ▸ aB.refl.app
 have gx : G[h.length]? = some (some (.row [.int .i64 x.to,pv])) := by rw [eG]; simp
 have gi := sG.2 _ _ hi
 have gd := sG.2 _ _ hd
 simp only [aV,List.cons_append,List.nil_append] at gd
 have bi : ∀ L,(G ++ L)[ib]? = some (some (.row [.ptr (.own i 0)])) := fun L => aA gi
 have bx : ∀ L,(G ++ L)[h.length]? = some (some (.row [.int .i64 x.to,pv])) := fun L => aA gx
 have bd : ∀ L,(G ++ L)[i]? = some (some (.row [v.pl,v.ln,v.pn,v.pe,v.we,m])) := fun L => aA gd
 simp only [go_sem,mf134,o1]
 rw [← eG]
 refine aH (aBR x.people pv (.fn (.func 135) [] [.ptr (.own ib 0),.ptr (.own h.length 0)]) (pkB d.people.length x.people) (Sl.sub hp sG) hl fun k hk L => ?_).v ?_
 · exact (aHO (i := i) (v := v) (m := m) x pv k hk (aA gd) (hR.sub sG.app) (bi L) (bx L) (Sl.sub hp sG.app) hl).vc (first := []) (capt := [_,_])
 simp only [go_sem,gi,gd,gx,bi,bx,bd,l1]
 refine ⟨(by unfold I64; omega),?_⟩
 refine dE (jF _ _ _).v ?_
 cases f1 : inB x.to (-1) ((d.places.length : Int) - 1) with
 | false => simp only [go_sem]; exact ⟨by simp [flB,f1],_,eG⟩
 | true =>
 cases f2 : (List.range x.people.length).all (pkB d.people.length x.people) with
 | false => simp only [go_sem]; exact ⟨by simp only [flB,f1,f2,Bool.and_false],_,eG⟩
 | true =>
 have c5 : ∀ a : Nat,((a : Int) == 0) = decide (a = 0) := fun a => by rw [Bool.eq_iff_iff]; simp
 have hf : flB d x = (decide (0 ≤ x.to) || decide (x.people.length = 0)) := by rw [flB,f1,f2,Bool.true_and,Bool.and_true]
 rw [hf]
 by_cases t0 : 0 ≤ x.to
 · simp only [go_sem,gx,bx,t0,k1,c5]
   exact ⟨rfl,_,eG⟩
 · simp only [go_sem,gx,bx,t0,k1,c5]
   exact ⟨rfl,_,eG⟩
theorem aEt (u : List aF) (uv : AV) (hd : h[i]? = some (some (.row (aV v ++ [m])))) (hR : iP w0 h d v) (hU : UnV w0 h uv u) (hn : u.length < 1000000) (hp : ∀ x ∈ u,x.people.length < 1000000) : aN Try.prog w0 93 [.ptr (.own i 0),uv] h (.bool (eM d u)) h := by
 refine aI aL aHR mf93_b mf93_g (Nat.le_of_ble_eq_true rfl) (by simp [AV.bdd,AV.bdds]) fun hb ha => aU ?_
 obtain ⟨l1,l2,l3,l4,l5⟩ := hR.lens
 have lu := NS.len hU
 have bd : ∀ L,(h ++ L)[i]? = some (some (.row (aV v ++ [m]))) := fun L => aA hd
 simp only [aV,List.cons_append,List.nil_append] at bd
 have hil := aK hd
 have c5 : ∀ a b : Nat,((a : Int) == b) = decide (a = b) := fun a b => by rw [Bool.eq_iff_iff]; simp; omega
 simp only [go_sem,mf93,bd,l3,lu,c5]
 refine ⟨fun e1 => ?_,fun e1 => by simp only [eM,decide_eq_false e1,Bool.and_false]⟩
 obtain ⟨rows,r1,r2,r3⟩ := hU
 have hrow : ∀ j c,rows[j]? = some c → ∃ (hj : j < u.length) (pv : AV),c = [.int .i64 u[j].to,pv] ∧ SlI w0 h pv u[j].people := fun j c hc => by
  have hj : j < u.length := by have := aK hc; omega
  obtain ⟨pv,rfl,p3⟩ := r3 j _ c (List.getElem?_eq_getElem hj) hc
  exact ⟨hj,pv,rfl,p3⟩
 have key : (List.range rows.length).all (fun j => flB d (u.getD j ⟨-1,[]⟩)) = u.all (flB d) := by rw [r1,cI]
 have hu : eM d u = u.all (flB d) := by simp only [eM,decide_eq_true e1,Bool.and_true]
 rw [hu,← key]
 refine aH (aGK rows uv (.fn (.func 134) [] [.ptr (.own h.length 0)]) (fun j => flB d (u.getD j ⟨-1,[]⟩)) (r2.sub aB.refl.app) ?_ (by omega) fun j c hc _ L => ?_).v ?_
 · intro c hc
   obtain ⟨j,hj,rfl⟩ := List.getElem_of_mem hc
   obtain ⟨_,pv,e,p3⟩ := hrow j _ (List.getElem?_eq_getElem hj)
   rw [e]
   simp only [List.all_cons,List.all_nil,p3.one.1,Bool.and_true]; rfl
 · obtain ⟨hj,pv,rfl,p3⟩ := hrow j c hc
   rw [aE hj]
   exact (aAo (i := i) (v := v) (m := m) j u[j] pv (by rw [List.append_assoc]; exact aA hd) (hR.sub aB.refl.app.app) (aA (by simp)) (Sl.sub p3 aB.refl.app.app) (hp _ (List.getElem_mem hj))).vc (first := []) (capt := [_])
 simp only [go_sem]
end
end Go.Proofs.Ab
namespace Go.Proofs.Ab
open Go Go.Proofs
variable {w0 : World} {h : Heap}
attribute [local irreducible] ACall aT aX aN aQ rvC rdC lp rg dr ex un rv rd'
theorem vO {d : aO} {s : aC} (e : cZ d s = true) : kR d s ∧ ∀ x ∈ s.people,0 ≤ x ∧ x < d.places.length := by
 simp only [cZ,Bool.and_eq_true,decide_eq_true_eq,List.all_eq_true] at e
 obtain ⟨e1,e2,e3,e4,e5,e6⟩ := e
 refine ⟨⟨e1,e2,e3,fun x hx => gB.1 (e4 x hx),fun x hx => ?_⟩,fun x hx => gB.1 (e5 x hx)⟩
 have := e6 x hx
 simp only [inB,Bool.and_eq_true,decide_eq_true_eq] at this
 omega
theorem aCC {d : aO} {v : cC} {m : AV} {i : Nat} (e : dM d = true) (hd : h[i]? = some (some (.row (aV v ++ [m])))) (hR : iP w0 h d v) : nW w0 h d v m i := by
 have dg := kZ e
 exact ⟨hd,hR,dg.pe,dg.pn,fun p hp => by have := (dg.people p hp).2.2.1; omega⟩
theorem aGo (s : aC) (sv : StV) (hs : StS w0 h s sv) (m1 : s.planes.length < 1000000) (m2 : s.legs.length < 1000000) (m3 : s.people.length < 1000000) : ACall Try.prog w0 95 [.agg (stC sv)] h fun y h' => aB h h' ∧ ∃ nv,y = .agg (stC nv) ∧ vG w0 h' h.length s nv := by
 refine bD aL aHP mf95_b mf95_g (Nat.le_of_ble_eq_true rfl) fun hb ha => aU ?_
 obtain ⟨o1,o2,o3⟩ := hs.ones
 simp only [go_sem,mf95,stC,o1,o2,o3]
 obtain ⟨G,eG⟩ : ∃ G,G = h ++ [some (Blk.row [sv.pl,sv.le,sv.pe]),some (Blk.row [AV.nilS,AV.nilS,AV.nilS])] := ⟨_,rfl⟩
 have sG : aB h G := eG ▸ aB.refl.app
 have hk : G[h.length]? = some (some (.row [sv.pl,sv.le,sv.pe])) := by rw [eG]; simp
 have hn : G[h.length + 1]? = some (some (.row [.nilS,.nilS,.nilS])) := by rw [eG]; simp
 have hkL : ∀ L,(G ++ L)[h.length]? = some (some (.row [sv.pl,sv.le,sv.pe])) := fun L => aA hk
 rw [← eG]
 refine oE aL [0,1,3,4,6,7,2,5,8,9,10] [o_ 3 (.addr (.t 1) 0),o_ 4 (l_ 3),o_ 6 (.addr (.t 1) 1),o_ 7 (l_ 6),o_ 9 (.addr (.t 1) 2),o_ 10 (l_ 9),.call (some 5) none (f_ 127) [(.t 4)]] [([(3,o_ 7 (l_ 6)),(5,o_ 10 (l_ 9))],[.call (some 8) none (f_ 127) [(.t 7)]]),([(5,o_ 10 (l_ 9))],[.call (some 11) none (f_ 127) [(.t 10)],o_ 12 (.build [.nilS,.nilS,.nilS] [(0,1,(.t 5)),(1,1,(.t 8)),(2,1,(.t 11))]),.op none none (.store (.t 2) (.t 12) 3)])] rfl rfl (by kernel_rfl) ?_
 simp only [go_sem,hk,hkL]
 refine aW (ACall.vc (first := []) (args := [_]) (mD s.planes sv.pl (hs.planes.sub sG) m1)) ?_
 rintro y1 H1 ⟨s1,w1⟩
 have k1 := s1.2 _ _ hk
 have k1L : ∀ L,(H1 ++ L)[h.length]? = some (some (.row [sv.pl,sv.le,sv.pe])) := fun L => aA k1
 simp only [go_sem,k1,k1L]
 refine aW (ACall.vc (first := []) (args := [_]) (mD s.legs sv.le (hs.legs.sub (sG.trans s1)) m2)) ?_
 rintro y2 H2 ⟨s2,w2⟩
 have k2 := s2.2 _ _ k1
 have k2L : ∀ L,(H2 ++ L)[h.length]? = some (some (.row [sv.pl,sv.le,sv.pe])) := fun L => aA k2
 simp only [go_sem,k2,k2L]
 refine aW (ACall.vc (first := []) (args := [_]) (mD s.people sv.pe (hs.people.sub (sG.trans (s1.trans s2))) m3)) ?_
 rintro y3 H3 ⟨s3,w3⟩
 have c1 := w1.o.s.one
 have c2 := w2.o.s.one
 have c3 := w3.o.s.one
 have k3 := (s1.trans (s2.trans s3)).2 _ _ hn
 have k3L : ∀ L,(H3 ++ L)[h.length + 1]? = some (some (.row [.nilS,.nilS,.nilS])) := fun L => aA k3
 have l3 := aK k3
 have z1 : (H3.set (h.length + 1) (some (Blk.row [y1,y2,y3])))[h.length + 1]? = some (some (Blk.row [y1,y2,y3])) := List.getElem?_set_self l3
 simp only [go_sem,c1.1,c1.2,c2.1,c2.2,c3.1,c3.2,k3,k3L,l3,z1]
 have sH : aB h (H3.set (h.length + 1) (some (Blk.row [y1,y2,y3]))) := (sG.trans (s1.trans (s2.trans s3))).setR (by omega)
 have gl : G.length = h.length + 2 := by rw [eG]; simp
 obtain ⟨d1,i1,a1⟩ := w1.i
 obtain ⟨d2,i2,a2⟩ := w2.i
 obtain ⟨d3,i3,a3⟩ := w3.i
 have n1 := s1.1
 have n2 := s2.1
 have n3 := sG.1
 exact ⟨sH,⟨_,_,_⟩,rfl,((a1.sub (s2.trans s3)).set (c' := [y1,y2,y3]) k3 rfl fun e => by have := i1 e; omega).toL (by omega),((a2.sub s3).set (c' := [y1,y2,y3]) k3 rfl fun e => by have := i2 e; omega).toL (by omega),(a3.set (c' := [y1,y2,y3]) k3 rfl fun e => by have := i3 e; omega).toL (by omega)⟩
theorem iO.set {H : Heap} {N k : Nat} {y : AV} {l : List Int} {c c' : List AV} (a : iO w0 H N y l) (hk : H[k]? = some (some (.row c))) (hc : c'.length = c.length) (hN : k < N) : iO w0 (H.set k (some (.row c'))) N y l := by
 obtain ⟨id,i1,a1⟩ := a.i
 exact (a1.set (c' := c') hk hc fun e => by have := i1 e; omega).toL (Nat.le_refl _)
theorem vG.set {H : Heap} {N k : Nat} {s : aC} {sv : StV} {c c' : List AV} (a : vG w0 H N s sv) (hk : H[k]? = some (some (.row c))) (hc : c'.length = c.length) (hN : k < N) : vG w0 (H.set k (some (.row c'))) N s sv := ⟨a.p.set hk hc hN,a.l.set hk hc hN,a.e.set hk hc hN⟩
theorem vG.here {H : Heap} {N : Nat} {s : aC} {sv : StV} (a : vG w0 H N s sv) : StS w0 H s sv := ⟨a.p.o,a.l.o,a.e.o⟩
theorem Cost_c (d : aO) (v : cC) (s : aC) (sv : StV) (hR : iP w0 h d v) (hS : StS w0 h s sv) (m1 : s.planes.length < 1000000) (m2 : s.legs.length < 1000000) (m3 : s.people.length < 1000000) :
 aN Try.prog w0 39 [.agg (aV v),.agg (stC sv)] h (.tup [.int .i64 (if (dM d && cZ d s) = true then uL d s else 0),.int .i64 (if (dM d && cZ d s) = true then 0 else 2)]) h := by
 refine aI aL aIm mf39_b mf39_g (Nat.le_of_ble_eq_true rfl) (by simp [AV.bdd,AV.bdds]) fun hb ha => aU ?_
 obtain ⟨o1,o2,o3,o4,o5⟩ := hR.ones
 obtain ⟨q1,q2,q3⟩ := hS.ones
 simp only [go_sem,mf39,aV,stC,o1,o2,o3,o4,o5,q1,q2,q3]
 obtain ⟨G,eG⟩ : ∃ G,G = h ++ [some (Blk.row [v.pl,v.ln,v.pn,v.pe,v.we]),some (Blk.row [sv.pl,sv.le,sv.pe]),some (Blk.row [v.pl,v.ln,v.pn,v.pe,v.we,AV.nilM])] := ⟨_,rfl⟩
 have sG : aB h G := eG ▸ aB.refl.app
 have g1 : G[h.length + 1]? = some (some (.row [sv.pl,sv.le,sv.pe])) := by rw [eG]; simp
 have g2 : G[h.length + 2]? = some (some (.row (aV v ++ [AV.nilM]))) := by rw [eG]; simp [aV]
 have b1 : ∀ L,(G ++ L)[h.length + 1]? = some (some (.row [sv.pl,sv.le,sv.pe])) := fun L => aA g1
 rw [← eG]
 refine aH (rJ d v (hR.sub sG)).v ?_
 cases e1 : dM d with
 | false => simp only [go_sem]; exact ⟨rfl,_,eG⟩
 | true =>
 simp only [go_sem,g1,b1,q1,q2,q3]
 refine aH (yY (m := .nilM) (i := h.length + 2) s sv g2 (hR.sub sG) (hS.sub sG) m1 m2 m3).v ?_
 cases e2 : cZ d s with
 | false => simp only [go_sem]; exact ⟨rfl,_,eG⟩
 | true =>
 have dg := kZ e1
 obtain ⟨sk,pat⟩ := vO e2
 simp only [go_sem,g1,b1,q1,q2,q3]
 refine aH (aGn d v .nilM (h.length + 2) s sv (aCC e1 g2 (hR.sub sG)) (hS.sub sG) sk (uS dg s) (qU dg s) pat).v ?_
 simp only [go_sem]
 exact ⟨rfl,_,eG⟩
def mP (d : aO) (s : aC) (op : Int) (u : List aF) : Bool := dM d && (cZ d s && (nC d.places.length op && eM d u))
def aAn (d : aO) (s : aC) (op : Int) (u : List aF) : aC × Int × Int × Int := if mP d s op u = true then ((dC d s op u).1,(dC d s op u).2.1,(dC d s op u).2.2,0) else (⟨[],[],[]⟩,0,0,2)
def FlyR (w0 : World) (h : Heap) (d : aO) (s : aC) (op : Int) (u : List aF) (y : AV) (h' : Heap) : Prop :=
 aB h h' ∧ ∃ nv,y = .tup [.agg (stC nv),.int .i64 (aAn d s op u).2.1,.int .i64 (aAn d s op u).2.2.1,.int .i64 (aAn d s op u).2.2.2] ∧ StS w0 h' (aAn d s op u).1 nv ∧ (mP d s op u = true → vG w0 h' h.length (aAn d s op u).1 nv)
theorem aGd (to : Int) (p : List Int) : ∀ l : List Int,(p.foldl (fun l n => l.set n.toNat to) l).length = l.length := by
 induction p with
 | nil => intro l; rfl
 | cons a p ih => intro l; rw [List.foldl_cons,ih,List.length_set]
theorem aDH (n : aC) (i : Nat) (x : aF) : (lH n i x).planes.length = n.planes.length ∧ (lH n i x).legs.length = n.legs.length ∧ (lH n i x).people.length = n.people.length :=
 ⟨List.length_set,List.length_set,aGd _ _ _⟩
theorem uE {d : aO} {s : aC} {op : Int} : ∀ (u : List aF) (i : Nat) (n : aC) (g : List Bool) (n' : aC),kV d s op u i n g = .ok n' → n'.planes.length = n.planes.length ∧ n'.legs.length = n.legs.length ∧ n'.people.length = n.people.length
 | [],i,n,g,n',e => by cases e; exact ⟨rfl,rfl,rfl⟩
 | x :: u,i,n,g,n',e => by
  rw [kV] at e
  split at e
  · exact uE u _ n g n' e
  · split at e
    · cases e
    · obtain ⟨a,b,c⟩ := uE u _ _ _ n' e
      obtain ⟨a',b',c'⟩ := aDH n i x
      exact ⟨a.trans a',b.trans b',c.trans c'⟩
theorem aGf (d : aO) (s : aC) (op : Int) (u : List aF) : (dC d s op u).1.planes.length = s.planes.length ∧ (dC d s op u).1.legs.length = s.legs.length ∧ (dC d s op u).1.people.length = s.people.length := by
 rw [dC]
 cases e : kV d s op u 0 s [false,false,false,false] with
 | error p => exact ⟨rfl,rfl,rfl⟩
 | ok n =>
  have := uE u 0 s _ n e
  simp only
  split
  · exact ⟨rfl,rfl,rfl⟩
  · exact this
theorem Fly_c (d : aO) (v : cC) (s : aC) (sv : StV) (op : Int) (u : List aF) (uv : AV) (hR : iP w0 h d v) (hS : StS w0 h s sv) (hU : UnV w0 h uv u) (m1 : s.planes.length < 1000000) (m2 : s.legs.length < 1000000) (m3 : s.people.length < 1000000) (hn : u.length < 1000000) (hp : ∀ x ∈ u,x.people.length < 1000000) :
 ACall Try.prog w0 48 [.agg (aV v),.agg (stC sv),.int .i64 op,uv] h (FlyR w0 h d s op u) := by
 refine bD aL aIg mf48_b mf48_g (Nat.le_of_ble_eq_true rfl) fun hb ha => aU ?_
 obtain ⟨o1,o2,o3,o4,o5⟩ := hR.ones
 obtain ⟨q1,q2,q3⟩ := hS.ones
 obtain ⟨l1,l2,l3,l4,l5⟩ := hR.lens
 simp only [go_sem,mf48,aV,stC,o1,o2,o3,o4,o5,q1,q2,q3]
 obtain ⟨G,eG⟩ : ∃ G,G = h ++ [some (Blk.row [v.pl,v.ln,v.pn,v.pe,v.we]),some (Blk.row [sv.pl,sv.le,sv.pe]),some (Blk.row [AV.nilS,AV.nilS,AV.nilS]),some (Blk.row [v.pl,v.ln,v.pn,v.pe,v.we,AV.nilM])] := ⟨_,rfl⟩
 have sG : aB h G := eG ▸ aB.refl.app
 have g0 : G[h.length]? = some (some (.row [v.pl,v.ln,v.pn,v.pe,v.we])) := by rw [eG]; simp
 have g1 : G[h.length + 1]? = some (some (.row [sv.pl,sv.le,sv.pe])) := by rw [eG]; simp
 have g2 : G[h.length + 2]? = some (some (.row [.nilS,.nilS,.nilS])) := by rw [eG]; simp
 have g3 : G[h.length + 3]? = some (some (.row (aV v ++ [AV.nilM]))) := by rw [eG]; simp [aV]
 have b0 : ∀ L,(G ++ L)[h.length]? = some (some (.row [v.pl,v.ln,v.pn,v.pe,v.we])) := fun L => aA g0
 have b1 : ∀ L,(G ++ L)[h.length + 1]? = some (some (.row [sv.pl,sv.le,sv.pe])) := fun L => aA g1
 have b2 : ∀ L,(G ++ L)[h.length + 2]? = some (some (.row [.nilS,.nilS,.nilS])) := fun L => aA g2
 have hRG := hR.sub sG
 have hSG := hS.sub sG
 have hUG := hU.sub sG
 have gl : G.length = h.length + 4 := by rw [eG]; simp
 rw [← eG]
 refine aH (rJ d v hRG).v ?_
 have hno : ∀ (x : Option Blk),mP d s op u = false → FlyR w0 h d s op u (.tup [.agg [.nilS,.nilS,.nilS],.int .i64 0,.int .i64 0,.int .i64 2]) (G.set (h.length + 2) x) := fun x e => by
  refine ⟨sG.setR (by omega),⟨.nilS,.nilS,.nilS⟩,?_⟩
  rw [aAn,e,if_neg (by simp)]
  refine ⟨rfl,⟨?_,?_,?_⟩,fun e => by cases e⟩ <;> exact ⟨.inl ⟨rfl,rfl⟩,fun _ => rfl⟩
 have z2 : ∀ x,(G.set (h.length + 2) (some (Blk.row x)))[h.length + 2]? = some (some (Blk.row x)) := fun x => List.getElem?_set_self (by omega)
 cases e1 : dM d with
 | false => simp only [go_sem,g2,b2,z2]; exact hno _ (by simp [mP,e1])
 | true =>
 simp only [go_sem,g1,b1,q1,q2,q3]
 refine aH (yY (m := .nilM) (i := h.length + 3) s sv g3 hRG hSG m1 m2 m3).v ?_
 cases e2 : cZ d s with
 | false => simp only [go_sem,g2,b2,z2]; exact hno _ (by simp [mP,e2])
 | true =>
 have dg := kZ e1
 obtain ⟨sk,pat⟩ := vO e2
 have hs := lL (n := d.places.length) (by have := dg.p1; omega)
 simp only [go_sem,g0,b0,l1,hs]
 have hp50 : (2 ^ d.places.length : Nat) ≤ 2 ^ 50 := Nat.pow_le_pow_right (by omega) (by have := dg.p1; omega)
 have hp1 : 1 ≤ 2 ^ d.places.length := Nat.one_le_two_pow
 refine ⟨by unfold I64; omega,?_⟩
 refine aH (jF _ _ _).v ?_
 rw [show inB op 0 (((2 ^ d.places.length : Nat) : Int) - 1) = nC d.places.length op from rfl]
 cases e3 : nC d.places.length op with
 | false => simp only [go_sem,g2,b2,z2]; exact hno _ (by simp [mP,e3])
 | true =>
 simp only [go_sem]
 refine aH (aEt (m := .nilM) (i := h.length + 3) u uv g3 hRG hUG hn hp).v ?_
 cases e4 : eM d u with
 | false => simp only [go_sem,g2,b2,z2]; exact hno _ (by simp [mP,e4])
 | true =>
 have uk := (aB3 e4).ok dg.pe
 have ho : 0 ≤ op ∧ op < 2 ^ 50 := by
  simp only [nC,inB,Bool.and_eq_true,decide_eq_true_eq] at e3
  omega
 simp only [go_sem,g1,b1,q1,q2,q3]
 refine aW (ACall.vc (first := []) (args := [_,_,_,_]) (fly_c d v .nilM (h.length + 3) s sv op u uv (aCC e1 g3 hRG) hSG sk hUG uk ho.1 ho.2).toA) ?_
 rintro y H1 ⟨s1,nv,rfl,hnv,_⟩
 obtain ⟨r1,r2,r3⟩ := hnv.ones
 simp only [go_sem,stC,r1,r2,r3]
 obtain ⟨r,er⟩ : ∃ r,r = (dC d s op u).2.1 := ⟨_,rfl⟩
 obtain ⟨p,ep⟩ : ∃ p,p = (dC d s op u).2.2 := ⟨_,rfl⟩
 rw [← er,← ep]
 obtain ⟨H2,eH2⟩ : ∃ H2,H2 = H1 ++ [some (Blk.row [nv.pl,nv.le,nv.pe]),some (Blk.row [AV.int .i64 r,AV.int .i64 p])] := ⟨_,rfl⟩
 have s2 : aB H1 H2 := eH2 ▸ aB.refl.app
 have h2l : H2.length = H1.length + 2 := by rw [eH2]; simp
 have t1 : H2[H1.length]? = some (some (.row [nv.pl,nv.le,nv.pe])) := by rw [eH2]; simp
 have t2 : H2[H1.length + 1]? = some (some (.row [.int .i64 r,.int .i64 p])) := by rw [eH2]; simp
 have t1L : ∀ L,(H2 ++ L)[H1.length]? = some (some (.row [nv.pl,nv.le,nv.pe])) := fun L => aA t1
 have t2L : ∀ L,(H2 ++ L)[H1.length + 1]? = some (some (.row [.int .i64 r,.int .i64 p])) := fun L => aA t2
 have t3 := (s1.trans s2).2 _ _ g2
 rw [← eH2]
 have lens := aGf d s op u
 refine oE aL [0,2,3,4,5,1,6,7,8,9] [o_ 52 (.load (.t 13) (some 3)),o_ 54 (.addr (.t 14) 0),o_ 55 (l_ 54),o_ 56 (.addr (.t 14) 1),o_ 57 (l_ 56),.call (some 53) none (f_ 95) [(.t 52)]] [([(2,o_ 55 (l_ 54)),(4,o_ 57 (l_ 56))],[.op none none (.store (.t 8) (.t 53) 3)]),([(2,o_ 55 (l_ 54)),(4,o_ 57 (l_ 56))],[o_ 9 (m_ 55),o_ 10 (m_ 57),o_ 11 (.mov (i_ 0))])] rfl rfl (by kernel_rfl) ?_
 simp only [go_sem,t1,t1L,t2,t2L,r1,r2,r3]
 refine aW (ACall.vc (first := []) (args := [_]) (aGo (dC d s op u).1 nv (hnv.sub s2) (by omega) (by omega) (by omega))) ?_
 rintro y H3 ⟨s3,nw,rfl,ow⟩
 obtain ⟨x1,x2,x3⟩ := ow.here.ones
 have v1 := s3.2 _ _ t1
 have v2 := s3.2 _ _ t2
 have v3 := s3.2 _ _ t3
 have v1L : ∀ L,(H3 ++ L)[H1.length]? = some (some (.row [nv.pl,nv.le,nv.pe])) := fun L => aA v1
 have v2L : ∀ L,(H3 ++ L)[H1.length + 1]? = some (some (.row [.int .i64 r,.int .i64 p])) := fun L => aA v2
 have v3L : ∀ L,(H3 ++ L)[h.length + 2]? = some (some (.row [.nilS,.nilS,.nilS])) := fun L => aA v3
 have z3 : ∀ x,(H3.set (h.length + 2) (some (Blk.row x)))[h.length + 2]? = some (some (Blk.row x)) := fun x => List.getElem?_set_self (aK v3)
 have n1 := s1.1
 have z4 : ∀ x,(H3.set (h.length + 2) x)[H1.length + 1]? = some (some (.row [.int .i64 r,.int .i64 p])) := fun x => by rw [List.getElem?_set_ne (by omega)]; exact v2
 simp only [go_sem,v1,v1L,v2,v2L,v3,v3L,x1,x2,x3,stC,z3,z4]
 have sub3 : aB h (H3.set (h.length + 2) (some (Blk.row [nw.pl,nw.le,nw.pe]))) := (sG.trans (s1.trans (s2.trans s3))).setR (by omega)
 have n2 := s2.1
 have hok : mP d s op u = true := by simp [mP,e1,e2,e3,e4]
 refine ⟨sub3,nw,?_⟩
 rw [aAn,hok,if_pos rfl,← er,← ep]
 have ow2 := ow.set v3 (c' := [nw.pl,nw.le,nw.pe]) rfl (by omega)
 exact ⟨rfl,ow2.here,fun _ => ⟨ow2.p.less (by omega),ow2.l.less (by omega),ow2.e.less (by omega)⟩⟩
end Go.Proofs.Ab
namespace Go.Proofs.Ab
open Go Go.Proofs
variable {w0 : World} {h : Heap}
attribute [local irreducible] ACall aT aX aN aQ rvC rdC lp rg dr ex un rv rd'
section
variable {d : aO} {v : cC} {s : aC} {sv : StV}
end
end Go.Proofs.Ab
namespace Go.Proofs.Ab
open Go Go.Proofs
variable {w0 : World} {h : Heap}
attribute [local irreducible] ACall aT aX aN aQ rvC rdC lp rg dr ex un rv rd'
section
variable {d : aO} {v : cC} {s : aC} {sv : StV}
end
end Go.Proofs.Ab
namespace Go.Proofs.Ab
open Go Go.Proofs
variable {w0 : World} {h : Heap}
attribute [local irreducible] ACall aT aX aN aQ rvC rdC lp rg dr ex un rv rd'
structure MvI (w0 : World) (G : Heap) (c : Nat) (nv : StV) (a b e : Nat) (H : Heap) (n : aC) : Prop where
 sub : aB G H
 hc : H[c]? = some (some (.row (stC nv)))
 p : gK w0 H G.length a nv.pl n.planes
 l : gK w0 H G.length b nv.le n.legs
 e : gK w0 H G.length e nv.pe n.people
structure MvX (N c a b e : Nat) : Prop where
 c0 : N ≤ c
 a0 : N ≤ a
 b0 : N ≤ b
 e0 : N ≤ e
 ac : a ≠ c
 bc : b ≠ c
 ec : e ≠ c
 ab : a ≠ b
 ae : a ≠ e
 be : b ≠ e
section
variable {G H : Heap} {c a b e : Nat} {nv : StV} {n : aC}
theorem MvI.putP (m : MvI w0 G c nv a b e H n) (x : MvX G.length c a b e) {j : Nat} (hj : j < n.planes.length) (t : Int) : MvI w0 G c nv a b e (H.set a (some (.row (aR (n.planes.set j t))))) ⟨n.planes.set j t,n.legs,n.people⟩ := by
 obtain ⟨_,_,_,h4⟩ := m.p.b (fun e => by rw [e] at hj; simp at hj)
 exact ⟨m.sub.setR x.a0,by rw [List.getElem?_set_ne x.ac]; exact m.hc,m.p.put hj t,m.l.set h4 (by simp [aR]) (fun _ => x.ab.symm),m.e.set h4 (by simp [aR]) (fun _ => x.ae.symm)⟩
theorem MvI.putL (m : MvI w0 G c nv a b e H n) (x : MvX G.length c a b e) {j : Nat} (hj : j < n.legs.length) (t : Int) : MvI w0 G c nv a b e (H.set b (some (.row (aR (n.legs.set j t))))) ⟨n.planes,n.legs.set j t,n.people⟩ := by
 obtain ⟨_,_,_,h4⟩ := m.l.b (fun e => by rw [e] at hj; simp at hj)
 exact ⟨m.sub.setR x.b0,by rw [List.getElem?_set_ne x.bc]; exact m.hc,m.p.set h4 (by simp [aR]) (fun _ => x.ab),m.l.put hj t,m.e.set h4 (by simp [aR]) (fun _ => x.be.symm)⟩
theorem MvI.putE (m : MvI w0 G c nv a b e H n) (x : MvX G.length c a b e) {j : Nat} (hj : j < n.people.length) (t : Int) : MvI w0 G c nv a b e (H.set e (some (.row (aR (n.people.set j t))))) ⟨n.planes,n.legs,n.people.set j t⟩ := by
 obtain ⟨_,_,_,h4⟩ := m.e.b (fun e => by rw [e] at hj; simp at hj)
 exact ⟨m.sub.setR x.e0,by rw [List.getElem?_set_ne x.ec]; exact m.hc,m.p.set h4 (by simp [aR]) (fun _ => x.ae),m.l.set h4 (by simp [aR]) (fun _ => x.be),m.e.put hj t⟩
end
theorem iO.id {H : Heap} {N : Nat} {y : AV} {l : List Int} (a : iO w0 H N y l) (M k : Nat) (hM : H.length ≤ M) (hk : N ≤ M + k) : ∃ id,N ≤ id ∧ (id < H.length ∨ id = M + k) ∧ gK w0 H N id y l := by
 obtain ⟨id,i1,i2⟩ := a.i
 by_cases hl : l = []
 · exact ⟨M + k,hk,.inr rfl,i2.o,fun e => absurd hl e,i2.z⟩
 · exact ⟨id,i1 hl,.inl (i2.b hl).2.1,i2⟩
end Go.Proofs.Ab
namespace Go.Proofs.Ab
open Go Go.Proofs
variable {w0 : World} {h : Heap}
attribute [local irreducible] ACall aT aX aN aQ rvC rdC lp rg dr ex un rv rd'
end Go.Proofs.Ab
namespace Go.Proofs.Ab
open Go Go.Proofs
variable {w : World} {h : Heap} {cs : List Value}
end Go.Proofs.Ab
namespace Go.Proofs.Ab
open Go Go.Proofs
variable {w0 : World} {h : Heap}
attribute [local irreducible] ACall aT aX aN aQ rvC rdC lp rg dr ex un rv rd'
theorem StS.nil {H : Heap} : StS w0 H ⟨[],[],[]⟩ ⟨.nilS,.nilS,.nilS⟩ := ⟨⟨.inl ⟨rfl,rfl⟩,fun _ => rfl⟩,⟨.inl ⟨rfl,rfl⟩,fun _ => rfl⟩,⟨.inl ⟨rfl,rfl⟩,fun _ => rfl⟩⟩
end Go.Proofs.Ab
namespace Go.Proofs.Ab
open Go Go.Proofs
variable {w0 : World} {h : Heap}
attribute [local irreducible] ACall aT aX aN aQ rvC rdC lp rg dr ex un rv rd'
section
variable {d : aO} {v : cC} {pol : eY} {pv : AV}
theorem uW.row (a : uW w0 h pv pol) {j : Nat} (hj : j < pol.length) : ∃ (p : Pl) (x : AV),bY 1 pv (some j) = some (.ptr p) ∧ (∀ L,rd w0 (h ++ L) p = some x) ∧ rd w0 h p = some x ∧ NS w0 h 1 (UnsR w0 h) x pol[j] := by
 obtain ⟨p,c,i,r,x,rfl,s⟩ := NS.at_ a hj
 have t : ∀ L,rd w0 (h ++ L) p = some x := fun L => xI (r L) rfl
 have t' := t []
 rw [List.append_nil] at t'
 exact ⟨p,x,i,t,t',s⟩
theorem aA9 {x : AV} {l : List (List aF)} (a : NS w0 h 1 (UnsR w0 h) x l) {j : Nat} (hj : j < l.length) : ∃ (p : Pl) (y : AV),bY 1 x (some j) = some (.ptr p) ∧ (∀ L,rd w0 (h ++ L) p = some y) ∧ rd w0 h p = some y ∧ UnV w0 h y l[j] := by
 obtain ⟨p,c,i,r,y,rfl,s⟩ := NS.at_ a hj
 have t : ∀ L,rd w0 (h ++ L) p = some y := fun L => xI (r L) rfl
 have t' := t []
 rw [List.append_nil] at t'
 exact ⟨p,y,i,t,t',s⟩
def xN (d : aO) (pol : eY) : Bool := pol.all (fun r => decide (r.length = aJ d) && r.all (eM d)) && decide (pol.length = d.weathers.length)
theorem aDA (hR : iP w0 h d v) (hP : uW w0 h pv pol) (hw : d.weathers ≠ []) (hs : aJ d < 1000000) (hl : pol.length < 1000000) (hr : ∀ r ∈ pol,r.length < 1000000 ∧ ∀ u ∈ r,u.length < 1000000 ∧ ∀ x ∈ u,x.people.length < 1000000) : aN Try.prog w0 45 [.agg (aV v),pv] h (.bool (xN d pol)) h := by
 refine aI aL aIj mf45_b mf45_g (Nat.le_of_ble_eq_true rfl) (by simp [AV.bdd,AV.bdds]) fun hb ha => aU ?_
 obtain ⟨o1,o2,o3,o4,o5⟩ := hR.ones
 obtain ⟨l1,l2,l3,l4,l5⟩ := hR.lens
 have lp := NS.len hP
 obtain ⟨G,eG⟩ : ∃ G,G = h ++ [some (Blk.row [v.pl,v.ln,v.pn,v.pe,v.we])] := ⟨_,rfl⟩
 have sG : aB h G := eG ▸ aB.refl.app
 have g0 : G[h.length]? = some (some (.row [v.pl,v.ln,v.pn,v.pe,v.we])) := by rw [eG]; simp
 have b0 : ∀ L,(G ++ L)[h.length]? = some (some (.row [v.pl,v.ln,v.pn,v.pe,v.we])) := fun L => aA g0
 have hRG := hR.sub sG
 have hPG := hP.sub sG
 simp only [go_sem,mf45,aV,o1,o2,o3,o4,o5]
 rw [← eG]
 refine cR (fun j => [(1,pv),(2,.ptr (.own h.length 0)),(5,.int .i64 j)]) (fun j => ∀ hj : j < pol.length,pol[j].length = aJ d ∧ pol[j].all (eM d) = true) pol.length rfl (fun j hj hi ih => ?_) (fun es => ?_)
 · refine aD aL aC6 [1,2,5] L45_1.eq_1 ?_
   have i3 : (j : Int) < pol.length := by omega
   obtain ⟨p,x,i,t,t',sx'⟩ := hPG.row hj
   have lx := NS.len sx'
   have hrj := hr _ (List.getElem_mem hj)
   have hno : (decide (pol[j].length = aJ d) && pol[j].all (eM d)) = false → xN d pol = false := fun e => by
    have : pol.all (fun r => decide (r.length = aJ d) && r.all (eM d)) = false := List.all_eq_false.2 ⟨_,List.getElem_mem hj,by simp only [e]; exact Bool.false_ne_true⟩
    simp only [xN,this,Bool.false_and]
   simp only [go_sem,lp,i3,i,t,t',lx,g0,b0,o1,o2,o3,o4,o5]
   refine dE (zH d v hRG.toDayS hw).v ?_
   simp only [go_sem]
   refine ⟨fun e => ⟨by rw [hno (by rw [decide_eq_false (by omega),Bool.false_and])],_,eG⟩,fun e => ?_⟩
   refine cR (fun q => [(1,pv),(2,.ptr (.own h.length 0)),(5,.int .i64 j),(6,.int .i64 q)]) (fun q => ∀ hq : q < pol[j].length,eM d pol[j][q] = true) pol[j].length rfl (fun q hq hi2 ih2 => ?_) (fun es2 => ?_)
   · refine aD aL aC7 [1,2,5,6] L45_0.eq_1 ?_
     have i4 : (q : Int) < pol[j].length := by omega
     obtain ⟨p2,y,i2,t2,t2',sy⟩ := aA9 sx' hq
     have huq := hrj.2 _ (List.getElem_mem hq)
     simp only [go_sem,i4,i,t,t',lx,i2,t2,t2',g0,b0,o1,o2,o3,o4,o5]
     refine dE (aHD d v pol[j][q] y hRG sy huq.1 huq.2).v ?_
     cases e1 : eM d pol[j][q] with
     | false =>
      simp only [go_sem]
      exact ⟨by rw [hno (by rw [List.all_eq_false.2 ⟨_,List.getElem_mem hq,by simp [e1]⟩,Bool.and_false])],_,eG⟩
     | true =>
      simp only [go_sem]
      exact ⟨(by unfold I64; omega),ih2 fun _ => e1⟩
   · refine aD aL aC7 [1,2,5,6] L45_0.eq_1 ?_
     have i4 : ¬ (pol[j].length : Int) < pol[j].length := by omega
     simp only [go_sem,i4,i,t,t',lx]
     exact ⟨(by unfold I64; omega),ih fun _ => ⟨by omega,List.all_eq_true.2 fun u hu => by
      obtain ⟨q,hq,rfl⟩ := List.getElem_of_mem hu
      exact es2 q hq hq⟩⟩
 refine aD aL aC6 [1,2,5] L45_1.eq_1 ?_
 have x1 : ¬ (pol.length : Int) < pol.length := by omega
 have h5 : ((pol.length : Int) == d.weathers.length) = decide (pol.length = d.weathers.length) := by rw [Bool.eq_iff_iff]; simp; omega
 simp only [go_sem,lp,x1,h5,g0,b0,l5]
 have : pol.all (fun r => decide (r.length = aJ d) && r.all (eM d)) = true := List.all_eq_true.2 fun r hr => by
  obtain ⟨i,hi,rfl⟩ := List.getElem_of_mem hr
  obtain ⟨a,b⟩ := es i hi hi
  rw [b,decide_eq_true a]; rfl
 exact ⟨by rw [xN,this,Bool.true_and],_,eG⟩
end
end Go.Proofs.Ab
namespace Go.Proofs.Ab
open Go Go.Proofs
variable {w0 : World} {h : Heap}
attribute [local irreducible] ACall aT aX aN aQ rvC rdC lp rg dr ex un rv rd'
end Go.Proofs.Ab

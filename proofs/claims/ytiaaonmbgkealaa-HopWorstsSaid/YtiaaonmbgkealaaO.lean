/- The own layer under the proofs of this seat, part O: what calls of the program come to on an abstract heap. No condition. -/
import Derived.Test.YtiaaonmbgkealaaM
set_option linter.unusedSimpArgs false
set_option linter.unusedVariables false
namespace Go.Proofs.Ab
open Go Go.Proofs
variable {w0 : World} {h : Heap}
attribute [local irreducible] ACall aT aW aM aQ rvC rdC lp rg dr ex un rv rd'
section
variable {s : aJ} {v : StV}
theorem StS.lens (a : StS w0 h s v) : eL v.pl = some (.int .i64 s.planes.length) ∧ eL v.le = some (.int .i64 s.legs.length) ∧ eL v.pe = some (.int .i64 s.people.length) := ⟨(SlI.use a.planes.s).1,(SlI.use a.legs.s).1,(SlI.use a.people.s).1⟩
theorem StS.ones (a : StS w0 h s v) : one v.pl = true ∧ one v.le = true ∧ one v.pe = true := ⟨a.planes.s.one.1,a.legs.s.one.1,a.people.s.one.1⟩
theorem SlI.at_ {x : AV} {l : List Int} (a : SlI w0 h x l) {j : Nat} (hj : j < l.length) : ∃ p : Pl,bY 1 x (some j) = some (.ptr p) ∧ (∀ L,rd w0 (h ++ L) p = some (.int .i64 l[j])) ∧ rd w0 h p = some (.int .i64 l[j]) := by
 obtain ⟨_,q,qi,qr⟩ := SlI.use a
 have := qr j hj []
 rw [List.append_nil] at this
 exact ⟨_,qi j hj,qr j hj,this⟩
end
theorem UnV.at_ {u : List aE} {v : AV} (a : UnV w0 h v u) {j : Nat} (hj : j < u.length) : ∃ (p : Pl) (pv : AV),bY 2 v (some j) = some (.ptr p) ∧ (∀ L,rdn w0 (h ++ L) p 2 = some [.int .i64 u[j].to,pv]) ∧ (∀ L,rd w0 (h ++ L) (p.add 0) = some (.int .i64 u[j].to)) ∧ (∀ L,rd w0 (h ++ L) (p.add 1) = some pv) ∧ SlI w0 h pv u[j].people := by
 obtain ⟨p,c,p1,p2,pv,rfl,p3⟩ := NS.at_ a hj
 exact ⟨p,pv,p1,p2,fun L => bW (p2 L) rfl,fun L => bW (p2 L) rfl,p3⟩
def mC (u : List aE) : Bool := u.all (fun x => decide (x.people.length ≤ 12)) && decide (u.length ≤ 12)
theorem thin_c (u : List aE) (v : AV) (hU : UnV w0 h v u) (hl : u.length ≤ 9223372036854775807) : aM Try.prog w0 51 [v] h (.bool (mC u)) h := by
 refine aI aG aIv mf51_b mf51_g (Nat.le_of_ble_eq_true rfl) (by simp [AV.bdd,AV.bdds]) fun hb ha => aR ?_
 have l1 := NS.len hU
 simp only [go_sem,mf51]
 refine bZ (fun j => [(0,v),(3,.int .i64 j)]) (fun j => ∀ hj : j < u.length,u[j].people.length ≤ 12) u.length rfl (fun j hj hi ih => ?_) (fun es => ?_)
 · refine aC aG aDb [0,3] L51_0.eq_1 ?_
   have i3 : (j : Int) < u.length := by omega
   obtain ⟨p,pv,p1,_,_,p4,p5⟩ := hU.at_ hj
   have p4' := p4 []
   rw [List.append_nil] at p4'
   have l2 := (SlI.use p5).1
   simp only [go_sem,l1,i3,p1,p4,p4',l2]
   refine ⟨fun e => ?_,fun e => ⟨(by unfold I64; omega),by simpa using ih fun _ => by omega⟩⟩
   have : u.all (fun x => decide (x.people.length ≤ 12)) = false := List.all_eq_false.2 ⟨_,List.getElem_mem hj,by simp; omega⟩
   simp [mC,this]
 refine aC aG aDb [0,3] L51_0.eq_1 ?_
 have x1 : ¬ (u.length : Int) < u.length := by omega
 have h5 : ((u.length : Int) ≤ 12) = (u.length ≤ 12) := by simp only [eq_iff_iff]; omega
 simp only [go_sem,l1,x1,h5]
 have : u.all (fun x => decide (x.people.length ≤ 12)) = true := List.all_eq_true.2 fun x hx => by
  obtain ⟨i,hi,rfl⟩ := List.getElem_of_mem hx
  simpa using es i hi hi
 simp [mC,this]
end Go.Proofs.Ab
namespace Go.Proofs.Ab
open Go Go.Proofs
variable {w0 : World} {h : Heap}
attribute [local irreducible] ACall aT aW aM aQ rvC rdC lp rg dr ex un rv rd'
def pkB (m : Nat) (l : List Int) (k : Nat) : Bool := inB (l.getD k 0) 0 ((m : Int) - 1) && (decide (k = 0) || decide (l.getD (k - 1) 0 < l.getD k 0))
def flB (d : aN) (x : aE) : Bool := (inB x.to (-1) ((d.places.length : Int) - 1) && (decide (0 ≤ x.to) || decide (x.people.length = 0))) && (List.range x.people.length).all (pkB d.people.length x.people)
def dK (d : aN) (u : List aE) : Bool := u.all (flB d) && decide (u.length = d.planes.length)
theorem pk_lt {m : Nat} {l : List Int} (h : (List.range l.length).all (pkB m l) = true) : (∀ n ∈ l,0 ≤ n ∧ n < m) ∧ l.Pairwise (· < ·) := by
 have h1 := cL.1 h
 refine ⟨fun n hn => ?_,?_⟩
 · obtain ⟨i,hi,rfl⟩ := List.getElem_of_mem hn
   have := h1 i hi
   simp only [pkB,aD hi,inB,Bool.and_eq_true,decide_eq_true_eq] at this
   omega
 · rw [List.pairwise_iff_getElem]
   have key : ∀ (k i j : Nat) (hi : i < l.length) (hj : j < l.length),j = i + 1 + k → l[i] < l[j] := by
    intro k
    induction k with
    | zero =>
     intro i j hi hj e
     have := h1 j hj
     simp only [pkB,aD hj,Bool.and_eq_true,Bool.or_eq_true,decide_eq_true_eq] at this
     have h2 : l.getD (j - 1) 0 = l[i] := by rw [show j - 1 = i by omega,aD hi]
     rw [h2] at this
     omega
    | succ k ih =>
     intro i j hi hj e
     have a := ih i (j - 1) hi (by omega) (by omega)
     have := h1 j hj
     simp only [pkB,aD hj,Bool.and_eq_true,Bool.or_eq_true,decide_eq_true_eq,aD (show j - 1 < l.length by omega)] at this
     omega
   exact fun i j hi hj hij => key (j - i - 1) i j hi hj (by omega)
theorem aBR {d : aN} {u : List aE} (h : dK d u = true) : qQ d u := by
 simp only [dK,flB,Bool.and_eq_true,List.all_eq_true,decide_eq_true_eq] at h
 obtain ⟨h1,h2⟩ := h
 have h3 : ∀ x ∈ u,(List.range x.people.length).all (pkB d.people.length x.people) = true := fun x hx => List.all_eq_true.2 (h1 x hx).2
 refine ⟨h2,fun x hx => ?_,fun x hx ht => ?_,fun x hx => pk_lt (h3 x hx)⟩
 · have := (h1 x hx).1.1
   simp only [inB,Bool.and_eq_true,decide_eq_true_eq] at this
   omega
 · have := (h1 x hx).1.2
   simp only [Bool.or_eq_true,decide_eq_true_eq] at this
   exact List.eq_nil_of_length_eq_zero (by omega)
theorem qQ.ok {d : aN} {u : List aE} (a : qQ d u) (h4 : d.people.length ≤ 4) : aBG d u := by
 refine ⟨a.len,fun x hx => (a.to x hx).2,fun x hx => (a.pp x hx).1,fun x hx => ?_⟩
 obtain ⟨h1,h2⟩ := a.pp x hx
 have key : ∀ (l : List Int) (b : Int),l.Pairwise (· < ·) → (∀ n ∈ l,b ≤ n ∧ n < 4) → (l.length : Int) ≤ 4 - b ∨ l = [] := by
  intro l
  induction l with
  | nil => intro b _ _; exact .inr rfl
  | cons a l ih =>
   intro b hp hb
   obtain ⟨p1,p2⟩ := List.pairwise_cons.1 hp
   have hab := hb a (by simp)
   rcases ih (a + 1) p2 (fun n hn => ⟨by have := p1 n hn; omega,(hb n (by simp [hn])).2⟩) with h | h
   · left; simp; omega
   · subst h; left; simp; omega
 rcases key x.people 0 h2 (fun n hn => by have := h1 n hn; omega) with h | h
 · omega
 · rw [h]; simp
theorem aHJ (d : aN) (v : cA) (u : List aE) (uv : AV) (hR : hZ w0 h d v) (hU : UnV w0 h uv u) (hn : u.length < 1000000) (hp : ∀ x ∈ u,x.people.length < 1000000) : aM Try.prog w0 55 [.agg (aU v),uv] h (.bool (dK d u)) h := by
 refine iX trivial (bC aG aIt mf55_b mf55_g (Nat.le_of_ble_eq_true rfl) fun hb ha => aR ?_)
 obtain ⟨l1,l2,l3,l4,l5⟩ := hR.lens
 obtain ⟨o1,o2,o3,o4,o5⟩ := hR.ones
 have n1 := hR.l1
 have n4 := hR.l4
 have lu := NS.len hU
 obtain ⟨K0,eK0⟩ : ∃ K0 : Heap,K0 = h ++ [some (.row (aU v))] := ⟨_,rfl⟩
 have s0 : aB h K0 := eK0 ▸ aB.refl.app
 have g0 : K0[h.length]? = some (some (.row (aU v))) := by rw [eK0]; simp
 have hU0 := hU.sub s0
 simp only [go_sem,mf55,o1,o2,o3,o4,o5]
 rw [show h ++ [some (Blk.row [v.pl,v.ln,v.pn,v.pe,v.we])] = K0 by rw [eK0]; rfl]
 refine fI (S := Nat × Heap) (F := fun s => [(1,uv),(2,.ptr (.own h.length 0)),(5,.int .i64 s.1)]) (H := fun s => s.2) (meas := fun s => u.length - s.1)
  (Inv := fun s => s.1 ≤ u.length ∧ aB K0 s.2 ∧ ∀ (j : Nat) (_ : j < s.1) (hj : j < u.length),flB d u[j] = true) (0,K0) ⟨Nat.zero_le _,aB.refl,fun j hj => absurd hj (by simp)⟩ rfl rfl ?_
 rintro ⟨j,G⟩ ⟨hj,sG,f1⟩ ih
 simp only at hj sG f1 ih
 refine aC aG aKC [1,2,5] L55_1.eq_1 ?_
 have gG := sG.2 _ _ g0
 have bG : ∀ L,(G ++ L)[h.length]? = some (some (.row (aU v))) := fun L => aA gG
 rcases Nat.lt_or_ge j u.length with hjl | hjl
 · have i3 : (j : Int) < u.length := by omega
   obtain ⟨p,pv,p1,p2K,_,_,p5⟩ := hU0.at_ hjl
   obtain ⟨x,ex⟩ : ∃ x,x = u[j] := ⟨_,rfl⟩
   rw [← ex] at p2K p5
   have p2 : ∀ L,rdn w0 (G ++ L) p 2 = some [.int .i64 x.to,pv] := fun L => (sG.app (L := L)).rdn (by simpa using p2K [])
   have p2' := p2 []
   rw [List.append_nil] at p2'
   have opv := p5.one.1
   have cpv := p5.one.2
   have lpp := (SlI.use p5).1
   have hnp := hp x (by rw [ex]; exact List.getElem_mem hjl)
   have sG2 : ∀ L,aB h (G ++ L) := fun L => s0.trans sG.app
   have hno : flB d x = false → dK d u = false := fun e => by
    have : u.all (flB d) = false := List.all_eq_false.2 ⟨x,by rw [ex]; exact List.getElem_mem hjl,by simp [e]⟩
    simp [dK,this]
   obtain ⟨b6,eb6⟩ : ∃ b,b = G.length := ⟨_,rfl⟩
   have g6 : (G ++ [some (.row [.int .i64 x.to,pv])])[b6]? = some (some (.row [.int .i64 x.to,pv])) := by rw [eb6]; simp
   have g6L : ∀ L,(G ++ [some (.row [.int .i64 x.to,pv])] ++ L)[b6]? = some (some (.row [.int .i64 x.to,pv])) := fun L => aA g6
   simp only [go_sem,lu,i3,gG,bG,aU,p1,p2,p2',opv,cpv,l1]
   refine ⟨(by unfold I64; omega),?_⟩
   refine aH (gQ _ _ _).v ?_
   cases e1 : inB x.to (-1) ((d.places.length : Int) - 1) with
   | false =>
    simp only [go_sem]
    exact ⟨sG2 _,by rw [hno (by simp [flB,e1])]⟩
   | true =>
   by_cases t0 : x.to < 0
   focus
    simp only [go_sem,t0,opv,cpv,lpp]
    refine ⟨fun e => ⟨sG2 _,by rw [hno (by
     have h1 : ¬ 0 ≤ x.to := by omega
     have h2 : ¬ x.people.length = 0 := by omega
     simp only [flB,decide_eq_false h1,decide_eq_false h2,Bool.or_false,Bool.and_false,Bool.false_and])]⟩,fun e => ?_⟩
    have e2 : (decide (0 ≤ x.to) || decide (x.people.length = 0)) = true := by
     have : x.people.length = 0 := by omega
     rw [decide_eq_true this,Bool.or_true]
    clear e
   rotate_left
   focus
    simp only [go_sem,t0]
    have e2 : (decide (0 ≤ x.to) || decide (x.people.length = 0)) = true := by
     have : 0 ≤ x.to := by omega
     rw [decide_eq_true this,Bool.true_or]
   all_goals
    rw [← eb6]
    refine bZ (fun k => [(1,uv),(2,.ptr (.own h.length 0)),(5,.int .i64 j),(6,.ptr (.own b6 0)),(7,.int .i64 k)]) (fun k => pkB d.people.length x.people k = true) x.people.length rfl (fun k hk _ ih2 => ?_) (fun f2 => ?_)
    · refine aC aG aC8 [1,2,5,6,7] L55_0.eq_1 ?_
      have i4 : (k : Int) < x.people.length := by omega
      obtain ⟨a,a1,a2K,_⟩ := SlI.at_ p5 hk
      have hsG6 : ∀ L,aB K0 (G ++ [some (.row [.int .i64 x.to,pv])] ++ L) := fun L => sG.app.app
      have a2 : ∀ L,rd w0 (G ++ [some (.row [.int .i64 x.to,pv])] ++ L) a = some (.int .i64 x.people[k]) := fun L => (hsG6 L).rd (by simpa using a2K [])
      have a2' := a2 []
      have gG6 : (G ++ [some (Blk.row [.int .i64 x.to,pv])])[h.length]? = some (some (.row (aU v))) := bG _
      have bG6 : ∀ L,(G ++ [some (Blk.row [.int .i64 x.to,pv])] ++ L)[h.length]? = some (some (.row (aU v))) := fun L => aA gG6
      rw [List.append_nil] at a2'
      have hpk : pkB d.people.length x.people k = (inB x.people[k] 0 ((d.people.length : Int) - 1) && (decide (k = 0) || decide (x.people.getD (k - 1) 0 < x.people[k]))) := by rw [pkB,aD hk]
      have hno2 : pkB d.people.length x.people k = false → dK d u = false := fun e => hno (by
       have : (List.range x.people.length).all (pkB d.people.length x.people) = false := List.all_eq_false.2 ⟨k,List.mem_range.2 hk,by simp [e]⟩
       simp only [flB,this,Bool.and_false])
      obtain ⟨G6,eG6⟩ : ∃ G6,G6 = G ++ [some (Blk.row [.int .i64 x.to,pv])] := ⟨_,rfl⟩
      rw [← eG6] at g6 g6L a2 a2' gG6 bG6 ⊢
      rw [← eG6] at ih2
      simp only [go_sem,g6,g6L,i4,lpp,a1,a2,a2',gG6,bG6,aU,l4]
      refine ⟨(by unfold I64; omega),?_⟩
      refine dZ (gQ _ _ _).v ?_
      cases e3 : inB x.people[k] 0 ((d.people.length : Int) - 1) with
      | false =>
       simp only [go_sem]
       exact ⟨eG6 ▸ sG2 _,by rw [hno2 (by rw [hpk,e3]; rfl)]⟩
      | true =>
      rcases k with _ | m
      · simp only [go_sem]
        exact ⟨fun e => absurd e (by simp),fun _ => ⟨(by unfold I64; omega),ih2 (by rw [hpk,e3]; rfl)⟩⟩
      · have hm : m < x.people.length := by omega
        have c0 : (0 : Int) < ((m + 1 : Nat) : Int) := by omega
        have ek : (((m + 1 : Nat) : Int) - 1) = (m : Int) := by omega
        obtain ⟨b,b1,b2K,_⟩ := SlI.at_ p5 hm
        have b2 : ∀ L,rd w0 (G6 ++ L) b = some (.int .i64 x.people[m]) := fun L => by rw [eG6]; exact (hsG6 L).rd (by simpa using b2K [])
        have b2' := b2 []
        rw [List.append_nil] at b2'
        have hpk2 : pkB d.people.length x.people (m + 1) = decide (x.people[m] < x.people[m + 1]) := by
         rw [hpk,e3,Nat.add_sub_cancel,aD hm]; simp
        simp only [go_sem,c0,g6,g6L,a1,a2,a2',ek,b1,b2,b2']
        refine ⟨(by unfold I64; omega),fun e => ?_,fun e => ⟨(by unfold I64; omega),ih2 (by rw [hpk2]; exact decide_eq_true (by omega))⟩⟩
        exact ⟨eG6 ▸ sG2 _,by rw [hno2 (by rw [hpk2]; exact decide_eq_false (by omega))]⟩
    · refine aC aG aC8 [1,2,5,6,7] L55_0.eq_1 ?_
      have i4 : ¬ (x.people.length : Int) < x.people.length := by omega
      simp only [go_sem,g6,g6L,i4,lpp]
      have hyes : flB d x = true := by rw [flB,e1,e2,cL.2 f2]; rfl
      have := ih (j + 1,G ++ [some (.row [.int .i64 x.to,pv])]) ⟨by simp only; omega,sG.app,fun q hq hq2 => by
       simp only at hq
       rcases Nat.lt_or_ge q j with h1 | h1
       · exact f1 q h1 hq2
       · obtain rfl : q = j := by omega
         rw [← ex]; exact hyes⟩ (by simp only; omega)
      exact ⟨(by unfold I64; omega),by simpa using this⟩
 · have i3 : ¬ (j : Int) < u.length := by omega
   obtain rfl : j = u.length := by omega
   simp only [go_sem,lu,i3,gG,bG,aU,l3]
   refine ⟨s0.trans sG,?_⟩
   have h1 : u.all (flB d) = true := List.all_eq_true.2 fun y hy => by
    obtain ⟨i,hi,rfl⟩ := List.getElem_of_mem hy
    exact f1 i hi hi
   rw [dK,h1,Bool.true_and]
   have : ((u.length : Int) == d.planes.length) = decide (u.length = d.planes.length) := by
    rw [Bool.eq_iff_iff]; simp; omega
   rw [this]
end Go.Proofs.Ab
namespace Go.Proofs.Ab
open Go Go.Proofs
variable {w0 : World} {h : Heap}
attribute [local irreducible] ACall aT aW aM aQ rvC rdC lp rg dr ex un rv rd'
theorem allI_c (l : List Int) (v fv : AV) (p : Nat → Bool) (hv : SlI w0 h v l) (hn : l.length < 1000000) (hf : ∀ (j : Nat) (hj : j < l.length) L,aQ Try.prog w0 fv [.int .i64 j,.int .i64 l[j]] (h ++ L) (.bool (p j)) (h ++ L)) :
 aM Try.prog w0 69 [v,fv] h (.bool ((List.range l.length).all p)) h := by
 have := xX (l.map fun z => [AV.int .i64 z]) v fv p hv (by intro r hr; obtain ⟨z,_,rfl⟩ := List.mem_map.1 hr; rfl) (by simpa using hn) fun j x hx _ L => by
  have hj : j < l.length := by have := aK hx; simpa using this
  have : x = .int .i64 l[j] := by simpa [hj] using hx.symm
  subst this
  exact hf j hj L
 rwa [List.length_map] at this
section
variable {d : aN} {v : cA} {m : AV} {i ib : Nat}
end
section
variable {d : aN} {v : cA} {m : AV} {i ib ix : Nat}
theorem aHW (x : aE) (pv : AV) (k : Nat) (hk : k < x.people.length) (hd : h[i]? = some (some (.row (aU v ++ [m])))) (hR : hZ w0 h d v) (hi : h[ib]? = some (some (.row [.ptr (.own i 0)]))) (hx : h[ix]? = some (some (.row [.int .i64 x.to,pv]))) (hp : SlI w0 h pv x.people) (hl : x.people.length < 1000000) :
 aM Try.prog w0 135 [.int .i64 k,.int .i64 x.people[k],.ptr (.own ib 0),.ptr (.own ix 0)] h (.bool (pkB d.people.length x.people k)) h := by
 refine aI aG aFy aJf aJe (Nat.le_of_ble_eq_true rfl) (by simp [AV.bdd,AV.bdds]) fun hb ha => aR ?_
 obtain ⟨l1,l2,l3,l4,l5⟩ := hR.lens
 have n4 := hR.l4
 have bi : ∀ L,(h ++ L)[ib]? = some (some (.row [.ptr (.own i 0)])) := fun L => aA hi
 have bx : ∀ L,(h ++ L)[ix]? = some (some (.row [.int .i64 x.to,pv])) := fun L => aA hx
 have bd : ∀ L,(h ++ L)[i]? = some (some (.row (aU v ++ [m]))) := fun L => aA hd
 simp only [aU,List.cons_append,List.nil_append] at bd
 have bi' := bi []
 have bx' := bx []
 have bd' := bd []
 simp only [List.append_nil] at bi' bx' bd'
 have hpk : pkB d.people.length x.people k = (inB x.people[k] 0 ((d.people.length : Int) - 1) && (decide (k = 0) || decide (x.people.getD (k - 1) 0 < x.people[k]))) := by rw [pkB,aD hk]
 rw [hpk]
 simp only [go_sem,mf135,bi,bd,bx,l4]
 refine ⟨(by unfold I64; omega),?_⟩
 refine aH (kM _ _ _).v ?_
 cases e1 : inB x.people[k] 0 ((d.people.length : Int) - 1) with
 | false => simp only [go_sem]; rfl
 | true =>
 rcases k with _ | k
 · simp only [go_sem]
   exact ⟨fun e => absurd rfl e,fun _ => rfl⟩
 have hk2 : k < x.people.length := by omega
 obtain ⟨a,a1,a2,a3⟩ := SlI.at_ hp hk2
 have ek : (((k + 1 : Nat) : Int) - 1) = (k : Int) := by omega
 have c0 : (((k + 1 : Nat) : Int) == 0) = false := by simp; omega
 simp only [go_sem,bi',bd',bx',bi,bd,bx,ek,a1,a2,a3,c0]
 refine ⟨(by unfold I64; omega),?_⟩
 rw [Nat.add_sub_cancel,aD hk2,Bool.false_or]
theorem aAe (j : Nat) (x : aE) (pv : AV) (hd : h[i]? = some (some (.row (aU v ++ [m])))) (hR : hZ w0 h d v) (hi : h[ib]? = some (some (.row [.ptr (.own i 0)]))) (hp : SlI w0 h pv x.people) (hl : x.people.length < 1000000) :
 aM Try.prog w0 134 [.int .i64 j,.agg [.int .i64 x.to,pv],.ptr (.own ib 0)] h (.bool (flB d x)) h := by
 refine aI aG aFz aJh aJg (Nat.le_of_ble_eq_true rfl) (by simp [AV.bdd,AV.bdds]) fun hb ha => aR ?_
 obtain ⟨l1,l2,l3,l4,l5⟩ := hR.lens
 have n1 := hR.l1
 have k1 := (SlI.use hp).1
 have o1 := hp.one.1
 obtain ⟨G,eG⟩ : ∃ G,G = h ++ [some (Blk.row [.int .i64 x.to,pv])] := ⟨_,rfl⟩
 have sG : aB h G := eG ▸ aB.refl.app
 have gx : G[h.length]? = some (some (.row [.int .i64 x.to,pv])) := by rw [eG]; simp
 have gi := sG.2 _ _ hi
 have gd := sG.2 _ _ hd
 simp only [aU,List.cons_append,List.nil_append] at gd
 have bi : ∀ L,(G ++ L)[ib]? = some (some (.row [.ptr (.own i 0)])) := fun L => aA gi
 have bx : ∀ L,(G ++ L)[h.length]? = some (some (.row [.int .i64 x.to,pv])) := fun L => aA gx
 have bd : ∀ L,(G ++ L)[i]? = some (some (.row [v.pl,v.ln,v.pn,v.pe,v.we,m])) := fun L => aA gd
 simp only [go_sem,mf134,o1]
 rw [← eG]
 refine aH (allI_c x.people pv (.fn (.func 135) [] [.ptr (.own ib 0),.ptr (.own h.length 0)]) (pkB d.people.length x.people) (Sl.sub hp sG) hl fun k hk L => ?_).v ?_
 · exact (aHW (i := i) (v := v) (m := m) x pv k hk (aA gd) (hR.sub sG.app) (bi L) (bx L) (Sl.sub hp sG.app) hl).vc (first := []) (capt := [_,_])
 simp only [go_sem,gi,gd,gx,bi,bx,bd,l1]
 refine ⟨(by unfold I64; omega),?_⟩
 refine dZ (kM _ _ _).v ?_
 cases f1 : inB x.to (-1) ((d.places.length : Int) - 1) with
 | false => simp only [go_sem]; exact ⟨by simp [flB,f1],_,eG⟩
 | true =>
 cases f2 : (List.range x.people.length).all (pkB d.people.length x.people) with
 | false => simp only [go_sem]; exact ⟨by simp only [flB,f1,f2,Bool.and_false],_,eG⟩
 | true =>
 have c5 : ∀ a : Nat,((a : Int) == 0) = decide (a = 0) := fun a => by rw [Bool.eq_iff_iff]; simp
 have hf : flB d x = (decide (0 ≤ x.to) || decide (x.people.length = 0)) := by rw [flB,f1,f2,Bool.true_and,Bool.and_true]
 rw [hf]
 by_cases t0 : 0 ≤ x.to
 · simp only [go_sem,gx,bx,t0,k1,c5]
   exact ⟨rfl,_,eG⟩
 · simp only [go_sem,gx,bx,t0,k1,c5]
   exact ⟨rfl,_,eG⟩
theorem aEz (u : List aE) (uv : AV) (hd : h[i]? = some (some (.row (aU v ++ [m])))) (hR : hZ w0 h d v) (hU : UnV w0 h uv u) (hn : u.length < 1000000) (hp : ∀ x ∈ u,x.people.length < 1000000) : aM Try.prog w0 93 [.ptr (.own i 0),uv] h (.bool (dK d u)) h := by
 refine aI aG aH2 mf93_b mf93_g (Nat.le_of_ble_eq_true rfl) (by simp [AV.bdd,AV.bdds]) fun hb ha => aR ?_
 obtain ⟨l1,l2,l3,l4,l5⟩ := hR.lens
 have lu := NS.len hU
 have bd : ∀ L,(h ++ L)[i]? = some (some (.row (aU v ++ [m]))) := fun L => aA hd
 simp only [aU,List.cons_append,List.nil_append] at bd
 have hil := aK hd
 have c5 : ∀ a b : Nat,((a : Int) == b) = decide (a = b) := fun a b => by rw [Bool.eq_iff_iff]; simp; omega
 simp only [go_sem,mf93,bd,l3,lu,c5]
 refine ⟨fun e1 => ?_,fun e1 => by simp only [dK,decide_eq_false e1,Bool.and_false]⟩
 obtain ⟨rows,r1,r2,r3⟩ := hU
 have hrow : ∀ j c,rows[j]? = some c → ∃ (hj : j < u.length) (pv : AV),c = [.int .i64 u[j].to,pv] ∧ SlI w0 h pv u[j].people := fun j c hc => by
  have hj : j < u.length := by have := aK hc; omega
  obtain ⟨pv,rfl,p3⟩ := r3 j _ c (List.getElem?_eq_getElem hj) hc
  exact ⟨hj,pv,rfl,p3⟩
 have key : (List.range rows.length).all (fun j => flB d (u.getD j ⟨-1,[]⟩)) = u.all (flB d) := by rw [r1,cR]
 have hu : dK d u = u.all (flB d) := by simp only [dK,decide_eq_true e1,Bool.and_true]
 rw [hu,← key]
 refine aH (aGQ rows uv (.fn (.func 134) [] [.ptr (.own h.length 0)]) (fun j => flB d (u.getD j ⟨-1,[]⟩)) (r2.sub aB.refl.app) ?_ (by omega) fun j c hc _ L => ?_).v ?_
 · intro c hc
   obtain ⟨j,hj,rfl⟩ := List.getElem_of_mem hc
   obtain ⟨_,pv,e,p3⟩ := hrow j _ (List.getElem?_eq_getElem hj)
   rw [e]
   simp only [List.all_cons,List.all_nil,p3.one.1,Bool.and_true]; rfl
 · obtain ⟨hj,pv,rfl,p3⟩ := hrow j c hc
   rw [aD hj]
   exact (aAe (i := i) (v := v) (m := m) j u[j] pv (by rw [List.append_assoc]; exact aA hd) (hR.sub aB.refl.app.app) (aA (by simp)) (Sl.sub p3 aB.refl.app.app) (hp _ (List.getElem_mem hj))).vc (first := []) (capt := [_])
 simp only [go_sem]
end
end Go.Proofs.Ab
namespace Go.Proofs.Ab
open Go Go.Proofs
variable {w0 : World} {h : Heap}
attribute [local irreducible] ACall aT aW aM aQ rvC rdC lp rg dr ex un rv rd'
theorem aKn {d : aN} {v : cA} {m : AV} {i : Nat} (e : eZ d = true) (hd : h[i]? = some (some (.row (aU v ++ [m])))) (hR : hZ w0 h d v) : nX w0 h d v m i := by
 have dg := uJ e
 exact ⟨hd,hR,dg.pe,dg.pn,fun p hp => by have := (dg.people p hp).2.2.1; omega⟩
theorem iD.set {H : Heap} {N k : Nat} {y : AV} {l : List Int} {c c' : List AV} (a : iD w0 H N y l) (hk : H[k]? = some (some (.row c))) (hc : c'.length = c.length) (hN : k < N) : iD w0 (H.set k (some (.row c'))) N y l := by
 obtain ⟨id,i1,a1⟩ := a.i
 exact (a1.set (c' := c') hk hc fun e => by have := i1 e; omega).toL (Nat.le_refl _)
theorem yF.set {H : Heap} {N k : Nat} {s : aJ} {sv : StV} {c c' : List AV} (a : yF w0 H N s sv) (hk : H[k]? = some (some (.row c))) (hc : c'.length = c.length) (hN : k < N) : yF w0 (H.set k (some (.row c'))) N s sv := ⟨a.p.set hk hc hN,a.l.set hk hc hN,a.e.set hk hc hN⟩
theorem yF.here {H : Heap} {N : Nat} {s : aJ} {sv : StV} (a : yF w0 H N s sv) : StS w0 H s sv := ⟨a.p.o,a.l.o,a.e.o⟩
theorem aGl (to : Int) (p : List Int) : ∀ l : List Int,(p.foldl (fun l n => l.set n.toNat to) l).length = l.length := by
 induction p with
 | nil => intro l; rfl
 | cons a p ih => intro l; rw [List.foldl_cons,ih,List.length_set]
theorem aDN (n : aJ) (i : Nat) (x : aE) : (gW n i x).planes.length = n.planes.length ∧ (gW n i x).legs.length = n.legs.length ∧ (gW n i x).people.length = n.people.length :=
 ⟨List.length_set,List.length_set,aGl _ _ _⟩
end Go.Proofs.Ab
namespace Go.Proofs.Ab
open Go Go.Proofs
variable {w0 : World} {h : Heap}
attribute [local irreducible] ACall aT aW aM aQ rvC rdC lp rg dr ex un rv rd'
section
variable {d : aN} {v : cA} {s : aJ} {sv : StV}
theorem aHQ (hR : hZ w0 h d v) (hs : StS w0 h s sv) (dg : iJ d) (sk : iM d s) (pat : ∀ x ∈ s.people,0 ≤ x ∧ x < d.places.length) : aM Try.prog w0 54 [.agg (aU v),.agg (stC sv)] h (.int .i64 (qK d s)) h := by
 refine aI aG aIu mf54_b mf54_g (Nat.le_of_ble_eq_true rfl) (by simp [AV.bdd,AV.bdds]) fun hb ha => aR ?_
 obtain ⟨o1,o2,o3,o4,o5⟩ := hR.ones
 obtain ⟨l1,l2,l3,l4,l5⟩ := hR.lens
 obtain ⟨q1,q2,q3⟩ := hs.ones
 obtain ⟨k1,k2,k3⟩ := hs.lens
 have dp := dg.pn
 have dl := dg.pe
 obtain ⟨G,eG⟩ : ∃ G,G = h ++ [some (Blk.row [v.pl,v.ln,v.pn,v.pe,v.we]),some (Blk.row [sv.pl,sv.le,sv.pe])] := ⟨_,rfl⟩
 have sG : aB h G := eG ▸ aB.refl.app
 have g0 : G[h.length]? = some (some (.row [v.pl,v.ln,v.pn,v.pe,v.we])) := by rw [eG]; simp
 have g1 : G[h.length + 1]? = some (some (.row [sv.pl,sv.le,sv.pe])) := by rw [eG]; simp
 have b0 : ∀ L,(G ++ L)[h.length]? = some (some (.row [v.pl,v.ln,v.pn,v.pe,v.we])) := fun L => aA g0
 have b1 : ∀ L,(G ++ L)[h.length + 1]? = some (some (.row [sv.pl,sv.le,sv.pe])) := fun L => aA g1
 simp only [go_sem,mf54,aU,stC,o1,o2,o3,o4,o5,q1,q2,q3]
 rw [← eG]
 have hRG := hR.sub sG
 have hsG := hs.sub sG
 refine cK (S := Unit) (fun j _ => [(2,.ptr (.own h.length 0)),(3,.ptr (.own (h.length + 1) 0)),(5,.int .i64 (jF (gL d s) j)),(6,.int .i64 j)]) (fun _ _ => G) (fun _ _ => True) d.planes.length () trivial rfl rfl (fun j _ hj _ ih => ?_) (fun _ _ => ?_)
 · refine aC aG aDa [2,3,5,6] L54_0.eq_1 ?_
   obtain ⟨p,p1,p0⟩ := hRG.toDayS.plane hj
   have p2 : ∀ L,rd w0 (G ++ L) (p.add 1) = some (.int .i64 d.planes[j].home) := fun L => bW (p0 L) rfl
   have p3 : ∀ L,rd w0 (G ++ L) (p.add 4) = some (.int .i64 d.planes[j].away) := fun L => bW (p0 L) rfl
   have p2' := p2 []
   have p3' := p3 []
   rw [List.append_nil] at p2' p3'
   have hjs : j < s.planes.length := by rw [sk.s1]; exact hj
   obtain ⟨a,a1,a2,a3⟩ := hsG.planes.s.at_ hjs
   have e3 : (j : Int) < s.planes.length := by omega
   have hbd := lK (by omega) (mZ dg s) j
   have hbj := mZ dg s j
   have ej : gL d s j = if s.planes[j] = d.planes[j].home then 0 else d.planes[j].away := by rw [gL,aD hjs,aD hj]
   have en : jF (gL d s) (j + 1) = jF (gL d s) j + gL d s j := rfl
   have ih := ih () trivial
   rw [en,ej] at ih
   rw [ej] at hbj
   simp only [go_sem,g0,b0,g1,b1,p1,p2,p2',p3,p3',a1,a2,a3,e3,k1]
   refine ⟨fun e => ⟨?_,(by unfold I64; omega),?_⟩,fun e => ⟨(by unfold I64; omega),?_⟩⟩
   · rw [if_neg e] at hbj; constructor <;> omega
   · rw [if_neg e] at ih; exact ih
   · rw [if_pos e,Int.add_zero] at ih; exact ih
 refine aC aG aDa [2,3,5,6] L54_0.eq_1 ?_
 have e3 : ¬ (d.planes.length : Int) < s.planes.length := by have := sk.s1; omega
 simp only [go_sem,g0,b0,g1,b1,e3,k1]
 refine cK (S := Unit) (fun j _ => [(2,.ptr (.own h.length 0)),(3,.ptr (.own (h.length + 1) 0)),(5,.int .i64 (jF (gL d s) d.planes.length + jF (eX d s) j)),(7,.int .i64 j)]) (fun _ _ => G) (fun _ _ => True) d.people.length () trivial (by simp [jF]) rfl (fun j _ hj _ ih => ?_) (fun _ _ => ?_)
 · refine aC aG aC9 [2,3,5,7] L54_1.eq_1 ?_
   obtain ⟨p,p1,p0⟩ := hRG.toDayS.person hj
   have p2 : ∀ L,rd w0 (G ++ L) (p.add 1) = some (.int .i64 d.people[j].to) := fun L => bW (p0 L) rfl
   have p3 : ∀ L,rd w0 (G ++ L) (p.add 3) = some (.int .i64 d.people[j].strand) := fun L => bW (p0 L) rfl
   have p4 : ∀ L,rd w0 (G ++ L) (p.add 4) = some (.int .i64 d.people[j].lodged) := fun L => bW (p0 L) rfl
   have p2' := p2 []
   have p3' := p3 []
   have p4' := p4 []
   rw [List.append_nil] at p2' p3' p4'
   have hjs : j < s.people.length := by rw [sk.s3]; exact hj
   obtain ⟨a,a1,a2,a3⟩ := hsG.people.s.at_ hjs
   have e4 : (j : Int) < s.people.length := by omega
   have hp := pat _ (List.getElem_mem hjs)
   obtain ⟨x,ex'⟩ : ∃ x : Nat,s.people[j] = x := ⟨s.people[j].toNat,by omega⟩
   have hxl : x < d.places.length := by omega
   obtain ⟨z,z1,z0⟩ := hRG.toDayS.place hxl
   have z2 : ∀ L,rd w0 (G ++ L) (z.add 1) = some (.bool d.places[x].lodge) := fun L => bW (z0 L) rfl
   have z2' := z2 []
   rw [List.append_nil] at z2'
   have an : s.people[j].toNat = x := by omega
   have hp0 := hp.1
   have hb1 := lK (by omega) (mZ dg s) d.planes.length
   have hb2 := lK (by omega) (nH dg s) j
   have hbj := nH dg s j
   have ej : eX d s j = if s.people[j] = d.people[j].to then 0 else if d.places[x].lodge then d.people[j].lodged else d.people[j].strand := by rw [eX,aD hjs,aD hj,ex',Int.toNat_natCast,aD hxl]
   have en : jF (eX d s) (j + 1) = jF (eX d s) j + eX d s j := rfl
   have ih := ih () trivial
   rw [en,ej,← Int.add_assoc] at ih
   rw [ej] at hbj
   simp only [go_sem,g0,b0,g1,b1,p1,p2,p2',a1,a2,a3,e4,k3]
   refine ⟨fun e => ⟨(by unfold I64; omega),?_⟩,fun e => ?_⟩
   · rw [if_pos e,Int.add_zero] at ih; exact ih
   rw [if_neg e] at ih hbj
   simp only [go_sem,g0,b0,g1,b1,p1,p3,p3',p4,p4',a1,a2,a3,z1,z2,z2',an,hp0]
   refine ⟨fun e' => ⟨?_,(by unfold I64; omega),?_⟩,fun e' => ⟨?_,(by unfold I64; omega),?_⟩⟩
   · rw [if_pos e'] at hbj; constructor <;> omega
   · rw [if_pos e'] at ih; exact ih
   · rw [if_neg (by simp [e'])] at hbj; constructor <;> omega
   · rw [if_neg (by simp [e'])] at ih; exact ih
 refine aC aG aC9 [2,3,5,7] L54_1.eq_1 ?_
 have e4 : ¬ (d.people.length : Int) < s.people.length := by have := sk.s3; omega
 simp only [go_sem,g0,b0,g1,b1,e4,k3]
 exact ⟨rfl,_,eG⟩
theorem aDG (a b : Int) (hR : hZ w0 h d v) : aM Try.prog w0 142 [.agg (aU v),.int .i64 a,.int .i64 b] h (.bool (cQ d a b)) h := by
 refine iX trivial (bC aG aFs aI3 aI2 (Nat.le_of_ble_eq_true rfl) fun hb ha => aR ?_)
 obtain ⟨o1,o2,o3,o4,o5⟩ := hR.ones
 obtain ⟨l1,l2,l3,l4,l5⟩ := hR.lens
 have n2 := hR.l2
 obtain ⟨K0,eK0⟩ : ∃ K0 : Heap,K0 = h ++ [some (.row (aU v))] := ⟨_,rfl⟩
 have s0 : aB h K0 := eK0 ▸ aB.refl.app
 have g0 : K0[h.length]? = some (some (.row (aU v))) := by rw [eK0]; simp
 simp only [go_sem,mf142,o1,o2,o3,o4,o5]
 rw [show h ++ [some (Blk.row [v.pl,v.ln,v.pn,v.pe,v.we])] = K0 by rw [eK0]; rfl]
 refine fI (S := Nat × Heap) (F := fun s => [(1,.int .i64 a),(2,.int .i64 b),(3,.ptr (.own h.length 0)),(7,.int .i64 s.1)]) (H := fun s => s.2) (meas := fun s => d.links.length - s.1)
  (Inv := fun s => s.1 ≤ d.links.length ∧ aB K0 s.2 ∧ ∀ (j : Nat) (_ : j < s.1) (hj : j < d.links.length),¬ (d.links[j] = ⟨a,b⟩ ∨ d.links[j] = ⟨b,a⟩)) (0,K0) ⟨Nat.zero_le _,aB.refl,fun j hj => absurd hj (by simp)⟩ rfl rfl ?_
 rintro ⟨j,G⟩ ⟨hj,sG,f1⟩ ih
 simp only at hj sG f1 ih
 refine aC aG aHb [1,2,3,7] L142_0.eq_1 ?_
 have gG := sG.2 _ _ g0
 have bG : ∀ L,(G ++ L)[h.length]? = some (some (.row (aU v))) := fun L => aA gG
 rcases Nat.lt_or_ge j d.links.length with hjl | hjl
 · have i3 : (j : Int) < d.links.length := by omega
   obtain ⟨p,p1,p2⟩ := (hR.sub (s0.trans sG)).toDayS.link hjl
   have p2' := p2 []
   rw [List.append_nil] at p2'
   obtain ⟨x,ex⟩ : ∃ x,x = d.links[j] := ⟨_,rfl⟩
   rw [← ex] at p2 p2'
   simp only [go_sem,l2,i3,gG,bG,aU,p1,p2,p2',cD.c]
   have sGL : ∀ L,aB h (G ++ L) := fun L => s0.trans sG.app
   have yes : ∀ L,(x = ⟨a,b⟩ ∨ x = ⟨b,a⟩) → aB h (G ++ L) ∧ AV.bool true = AV.bool (cQ d a b) := fun L e => by
    refine ⟨sGL L,?_⟩
    have hm : x ∈ d.links := ex ▸ List.getElem_mem hjl
    have : cQ d a b = true := by
     rw [cQ,Bool.or_eq_true,List.any_eq_true,List.any_eq_true]
     rcases e with e | e
     · exact .inl ⟨x,hm,decide_eq_true e.symm⟩
     · exact .inr ⟨x,hm,decide_eq_true e.symm⟩
    rw [this]
   have no := fun (e : ¬ (x = ⟨a,b⟩ ∨ x = ⟨b,a⟩)) => ih (j + 1,G ++ [some (Blk.row [.int .i64 x.one,.int .i64 x.other])]) ⟨by simp only; omega,sG.app,fun q hq hq2 => by
    simp only at hq
    rcases Nat.lt_or_ge q j with h1 | h1
    · exact f1 q h1 hq2
    · obtain rfl : q = j := by omega
      rw [← ex]; exact e⟩ (by simp only; omega)
   obtain ⟨x1,x2⟩ := x
   simp only [Int.natCast_add,Int.cast_ofNat_Int] at no
   refine ⟨fun e1 => ⟨fun e2 => ⟨fun e3 => ⟨fun e4 => yes _ (.inr (by cases e3; cases e4; rfl)),fun e4 => ⟨(by unfold I64; omega),no ?_⟩⟩,fun e3 => ⟨(by unfold I64; omega),no ?_⟩⟩,fun e2 => yes _ (.inl (by cases e1; cases e2; rfl))⟩,fun e1 => ⟨fun e3 => ⟨fun e4 => yes _ (.inr (by cases e3; cases e4; rfl)),fun e4 => ⟨(by unfold I64; omega),no ?_⟩⟩,fun e3 => ⟨(by unfold I64; omega),no ?_⟩⟩⟩
   all_goals
    rintro (e | e) <;> cases e
    · first | exact absurd rfl e1 | exact absurd rfl e2
    · first | exact absurd rfl e3 | exact absurd rfl e4
 · have i3 : ¬ (j : Int) < d.links.length := by omega
   obtain rfl : j = d.links.length := by omega
   simp only [go_sem,l2,i3,gG,bG,aU]
   refine ⟨s0.trans sG,?_⟩
   have : cQ d a b = false := by
    rw [cQ,Bool.or_eq_false_iff,List.any_eq_false,List.any_eq_false]
    constructor
    all_goals
     intro y hy
     obtain ⟨i,hi,rfl⟩ := List.getElem_of_mem hy
     have := f1 i hi hi
     simp only [decide_eq_true_eq]
     intro e
     exact this (by simp [← e])
   rw [this]
end
end Go.Proofs.Ab
namespace Go.Proofs.Ab
open Go Go.Proofs
variable {w0 : World} {h : Heap}
attribute [local irreducible] ACall aT aW aM aQ rvC rdC lp rg dr ex un rv rd'
section
variable {d : aN} {v : cA} {s : aJ} {sv : StV}
theorem aGJ {o a : Nat} (e : ((o / 2 ^ a % 2 : Nat) : Int) = 0) : cG o a = false := by
 rw [cG]; exact decide_eq_false (by omega)
theorem aCu {o a : Nat} (e : ¬ ((o / 2 ^ a % 2 : Nat) : Int) = 0) : cG o a = true := by
 rw [cG]; exact decide_eq_true (by omega)
theorem aDI (op : Int) (u : List aE) (uv : AV) (i : Nat) (hi : i < u.length) (hR : hZ w0 h d v) (hs : StS w0 h s sv) (hU : UnV w0 h uv u) (dg : iJ d) (sk : iM d s) (uk : qQ d u) (o1 : 0 ≤ op) (o2 : op < 2 ^ 50) :
 aM Try.prog w0 96 [.agg (aU v),.agg (stC sv),.int .i64 op,uv,.int .i64 i] h (.int .i64 (oK d s op u i)) h := by
 refine aI aG aH0 mf96_b mf96_g (Nat.le_of_ble_eq_true rfl) (by simp [AV.bdd,AV.bdds]) fun hb ha => aR ?_
 obtain ⟨y1,y2,y3,y4,y5⟩ := hR.ones
 obtain ⟨l1,l2,l3,l4,l5⟩ := hR.lens
 obtain ⟨q1,q2,q3⟩ := hs.ones
 obtain ⟨k1,k2,k3⟩ := hs.lens
 have hip : i < d.planes.length := by have := uk.len; omega
 obtain ⟨x,ex⟩ : ∃ x,x = u[i] := ⟨_,rfl⟩
 obtain ⟨fp,pv,f1,f2,_,_,f5⟩ := hU.at_ hi
 rw [← ex] at f2 f5
 have opv := f5.one.1
 have lpp := (SlI.use f5).1
 have hxu : x ∈ u := ex ▸ List.getElem_mem hi
 have hto := uk.to x hxu
 have hpp := uk.pp x hxu
 have hpl := (uk.ok dg.pe).pl x hxu
 obtain ⟨G,eG⟩ : ∃ G,G = h ++ [some (Blk.row [v.pl,v.ln,v.pn,v.pe,v.we]),some (Blk.row [sv.pl,sv.le,sv.pe]),some (Blk.row [.int .i64 x.to,pv])] := ⟨_,rfl⟩
 have sG : aB h G := eG ▸ aB.refl.app
 have g0 : G[h.length]? = some (some (.row [v.pl,v.ln,v.pn,v.pe,v.we])) := by rw [eG]; simp
 have g1 : G[h.length + 1]? = some (some (.row [sv.pl,sv.le,sv.pe])) := by rw [eG]; simp
 have g2 : G[h.length + 2]? = some (some (.row [.int .i64 x.to,pv])) := by rw [eG]; simp
 have b0 : ∀ L,(G ++ L)[h.length]? = some (some (.row [v.pl,v.ln,v.pn,v.pe,v.we])) := fun L => aA g0
 have b1 : ∀ L,(G ++ L)[h.length + 1]? = some (some (.row [sv.pl,sv.le,sv.pe])) := fun L => aA g1
 have b2 : ∀ L,(G ++ L)[h.length + 2]? = some (some (.row [.int .i64 x.to,pv])) := fun L => aA g2
 have hx : u.getD i ⟨-1,[]⟩ = x := by rw [aD hi,ex]
 have hRG := hR.sub sG
 have hsG := hs.sub sG
 have hUG := hU.sub sG
 have hpG := Sl.sub f5 sG
 have hjs : i < s.planes.length := by rw [sk.s1]; exact hip
 have hjl : i < s.legs.length := by rw [sk.s2]; exact hip
 obtain ⟨a,a1,a2,a3⟩ := hsG.planes.s.at_ hjs
 obtain ⟨c,c1,c2,c3⟩ := hsG.legs.s.at_ hjl
 obtain ⟨p,p1,p0⟩ := hRG.toDayS.plane hip
 have p2 : ∀ L,rd w0 (G ++ L) (p.add 2) = some (.int .i64 d.planes[i].seats) := fun L => bW (p0 L) rfl
 have p3 : ∀ L,rd w0 (G ++ L) (p.add 3) = some (.int .i64 d.planes[i].duty) := fun L => bW (p0 L) rfl
 have p2' := p2 []
 have p3' := p3 []
 rw [List.append_nil] at p2' p3'
 have hat := sk.at_ _ (List.getElem_mem hjs)
 have dp1 := dg.p1
 have dp2 := dg.pn
 simp only [go_sem,mf96,aU,stC,y1,y2,y3,y4,y5,q1,q2,q3,f1,f2,opv]
 rw [← eG]
 by_cases t0 : x.to < 0
 · simp only [go_sem,t0]
   rw [oK]; simp only [hx]; rw [if_pos t0]
 simp only [go_sem,t0,g0,g1,g2,b0,b1,b2,y1,y2,y3,y4,y5,a1,a2,a3]
 refine dZ (aDG s.planes[i] x.to hRG).v ?_
 have hr : oK d s op u i = if !cQ d s.planes[i] x.to then 2 else
  if !(cG op.toNat s.planes[i].toNat && cG op.toNat x.to.toNat) then 3 else
  if !decide (s.legs[i] < d.planes[i].duty) then 4 else
  if sE s u i x then 5 else if !decide (eJ d x.people ≤ d.planes[i].seats) then 6 else 1 := by
  rw [oK]; simp only [hx]; rw [if_neg t0,aD hjs,aD hjl,aD hip]
 cases r1 : cQ d s.planes[i] x.to with
 | false => simp only [go_sem]; exact ⟨by rw [hr,r1]; rfl,_,eG⟩
 | true =>
 obtain ⟨o,eo⟩ : ∃ o : Nat,op = o := ⟨op.toNat,by omega⟩
 obtain ⟨t,et⟩ : ∃ t : Nat,x.to = t := ⟨x.to.toNat,by omega⟩
 obtain ⟨aa,ea⟩ : ∃ a : Nat,s.planes[i] = a := ⟨s.planes[i].toNat,by omega⟩
 have o62 : o < 2 ^ 62 := by omega
 have z1 : bin .shr (.int .i64 op) (.int .i64 x.to) = some (.int .i64 ((o / 2 ^ t : Nat) : Int)) := by rw [eo,et]; exact fW (by omega)
 have z2 : bin .shr (.int .i64 op) (.int .i64 s.planes[i]) = some (.int .i64 ((o / 2 ^ aa : Nat) : Int)) := by rw [eo,ea]; exact fW (by omega)
 have d1 : o / 2 ^ t < 2 ^ 62 := Nat.lt_of_le_of_lt (Nat.div_le_self _ _) o62
 have d2 : o / 2 ^ aa < 2 ^ 62 := Nat.lt_of_le_of_lt (Nat.div_le_self _ _) o62
 have z3 := fV d1
 have z4 := fV d2
 have hb2 : (cG op.toNat s.planes[i].toNat && cG op.toNat x.to.toNat) = (cG o aa && cG o t) := by rw [eo,et,ea]; rfl
 simp only [go_sem,z1,z2,z3,z4,g1,b1,g2,b2,a1,a2,a3]
 refine ⟨fun e1 => ⟨fun e2 => ⟨by rw [hr,r1,hb2,aGJ e2]; simp,_,eG⟩,fun e2 => ?_⟩,fun e1 => ⟨by rw [hr,r1,hb2,aGJ e1]; simp,_,eG⟩⟩
 have r2 : (cG op.toNat s.planes[i].toNat && cG op.toNat x.to.toNat) = true := by rw [hb2,aCu e1,aCu e2]; rfl
 simp only [go_sem,c1,c2,c3,g0,b0,p1,p3,p3']
 refine ⟨fun e3 => ⟨by rw [hr,r1,r2,decide_eq_false (by omega)]; rfl,_,eG⟩,fun e3 => ?_⟩
 have hr2 : oK d s op u i = if sE s u i x then 5 else if !decide (eJ d x.people ≤ d.planes[i].seats) then 6 else 1 := by rw [hr,r1,r2,decide_eq_true (by omega)]; rfl
 obtain ⟨bad,ebad⟩ : ∃ bad : Int → Bool,bad = fun n => !(s.people.getD n.toNat 0 == s.planes.getD i 0) || (u.take i).any fun y => y.people.any fun z => z == n := ⟨_,rfl⟩
 have hbad : sE s u i x = x.people.any bad := by rw [sE,ebad]
 refine cK (S := Unit) (fun j _ => [(3,uv),(4,.int .i64 i),(5,.ptr (.own h.length 0)),(6,.ptr (.own (h.length + 1) 0)),(11,.ptr (.own (h.length + 2) 0)),(12,.int .i64 (eJ d (x.people.take j))),(13,.int .i64 j)]) (fun _ _ => G) (fun j _ => ∀ k (hk : k < x.people.length),k < j → bad x.people[k] = false) x.people.length () (fun k hk h => absurd h (by simp)) (by rw [List.take_zero]; rfl) rfl (fun j _ hj hall ih => ?_) (fun _ hall => ?_)
 · refine aC aG aCA [3,4,5,6,11,12,13] L96_2.eq_1 ?_
   obtain ⟨n,en⟩ : ∃ n : Nat,x.people[j] = n := ⟨x.people[j].toNat,by have := hpp.1 _ (List.getElem_mem hj); omega⟩
   have hn := hpp.1 _ (List.getElem_mem hj)
   have hnp : n < d.people.length := by omega
   have hns : n < s.people.length := by rw [sk.s3]; omega
   have i3 : (j : Int) < x.people.length := by omega
   obtain ⟨w,w1,w2,w3⟩ := SlI.at_ hpG hj
   obtain ⟨pp,pp1,pp0⟩ := hRG.toDayS.person hnp
   have pp2 : ∀ L,rd w0 (G ++ L) (pp.add 2) = some (.int .i64 d.people[n].seats) := fun L => bW (pp0 L) rfl
   have pp2' := pp2 []
   rw [List.append_nil] at pp2'
   obtain ⟨z,zz1,zz2,zz3⟩ := hsG.people.s.at_ hns
   have hn0 := hn.1
   have an : x.people[j].toNat = n := by omega
   have sbd : ∀ p ∈ d.people,0 ≤ p.seats ∧ p.seats ≤ 1000 := fun p hp => by have := (dg.people p hp).2.2.1; omega
   have bd := vK (d := d) (l := x.people.take (j + 1)) sbd
   rw [List.length_take] at bd
   have etk := rY (d := d) hj
   rw [an,aD hnp] at etk
   have hst : bad x.people[j] = true → oK d s op u i = 5 := fun e => by
    rw [hr2,hbad,List.any_eq_true.2 ⟨_,List.getElem_mem hj,e⟩,if_pos rfl]
   simp only [go_sem,g0,g1,g2,b0,b1,b2,lpp,i3,w1,w2,w3,pp1,pp2,pp2',zz1,zz2,zz3,hn0,an,a1,a2,a3]
   refine ⟨⟨by omega,by omega⟩,fun e => ⟨by rw [hst (by rw [ebad,Bool.or_eq_true,an,aD hns,aD hjs]; left; simpa using e)],_,eG⟩,fun e => ?_⟩
   refine bZ (fun k => [(3,uv),(4,.int .i64 i),(5,.ptr (.own h.length 0)),(6,.ptr (.own (h.length + 1) 0)),(11,.ptr (.own (h.length + 2) 0)),(12,.int .i64 (eJ d (x.people.take j) + d.people[n].seats)),(13,.int .i64 j),(14,.int .i64 x.people[j]),(15,.int .i64 k)]) (fun k => ((u.getD k ⟨-1,[]⟩).people.any fun z => z == x.people[j]) = false) i rfl (fun k hk _ ih2 => ?_) (fun hall2 => ?_)
   · refine aC aG aCB [3,4,5,6,11,12,13,14,15] L96_1.eq_1 ?_
     have i4 : (k : Int) < i := by omega
     have hku : k < u.length := by omega
     obtain ⟨kp,kv,kf1,_,_,kf4,kf5⟩ := hUG.at_ hku
     have kf4' := kf4 []
     rw [List.append_nil] at kf4'
     have kl := (SlI.use kf5).1
     have kok := (uk.ok dg.pe).pl _ (List.getElem_mem hku)
     rw [aD hku] at ih2
     simp only [go_sem,i4]
     refine bZ (fun l => [(3,uv),(4,.int .i64 i),(5,.ptr (.own h.length 0)),(6,.ptr (.own (h.length + 1) 0)),(11,.ptr (.own (h.length + 2) 0)),(12,.int .i64 (eJ d (x.people.take j) + d.people[n].seats)),(13,.int .i64 j),(14,.int .i64 x.people[j]),(15,.int .i64 k),(16,.int .i64 l)]) (fun l => ¬ u[k].people.getD l 0 = x.people[j]) u[k].people.length rfl (fun l hl _ ih3 => ?_) (fun hall3 => ?_)
     · refine aC aG aCC [3,4,5,6,11,12,13,14,15,16] L96_0.eq_1 ?_
       have i5 : (l : Int) < u[k].people.length := by omega
       obtain ⟨lw,lw1,lw2,lw3⟩ := SlI.at_ kf5 hl
       rw [aD hl] at ih3
       simp only [go_sem,kf1,kf4,kf4',kl,i5,lw1,lw2,lw3]
       refine ⟨fun e4 => ?_,fun e4 => ⟨(by unfold I64; omega),ih3 e4⟩⟩
       suffices hb : bad x.people[j] = true from ⟨by rw [hst hb],_,eG⟩
       rw [ebad,Bool.or_eq_true]
       right
       rw [List.any_eq_true]
       refine ⟨u[k],List.mem_take_iff_getElem.2 ⟨k,by omega,rfl⟩,?_⟩
       rw [List.any_eq_true]
       exact ⟨_,List.getElem_mem hl,by simp [e4]⟩
     · refine aC aG aCC [3,4,5,6,11,12,13,14,15,16] L96_0.eq_1 ?_
       have i5 : ¬ (u[k].people.length : Int) < u[k].people.length := by omega
       simp only [go_sem,kf1,kf4,kf4',kl,i5]
       refine ⟨(by unfold I64; omega),ih2 ?_⟩
       rw [List.any_eq_false]
       intro z hz
       obtain ⟨l,hl,rfl⟩ := List.getElem_of_mem hz
       have := hall3 l hl
       rw [aD hl] at this
       simpa using this
   · refine aC aG aCB [3,4,5,6,11,12,13,14,15] L96_1.eq_1 ?_
     have i4 : ¬ (i : Int) < i := by omega
     simp only [go_sem,i4]
     rw [etk] at ih
     refine ⟨(by unfold I64; omega),ih () fun k hk hkj => ?_⟩
     rcases Nat.lt_or_ge k j with h1 | h1
     · exact hall k hk h1
     · obtain rfl : k = j := by omega
       rw [ebad,Bool.or_eq_false_iff]
       refine ⟨by rw [an,aD hns,aD hjs]; simp [e],?_⟩
       rw [List.any_eq_false]
       intro y hy
       obtain ⟨q,hq,rfl⟩ := List.mem_take_iff_getElem.1 hy
       have := hall2 q (by omega)
       rw [aD (by omega)] at this
       simp [this]
 refine aC aG aCA [3,4,5,6,11,12,13] L96_2.eq_1 ?_
 have i3 : ¬ (x.people.length : Int) < x.people.length := by omega
 simp only [go_sem,g0,g1,g2,b0,b1,b2,lpp,i3,p1,p2,p2']
 have hb0 : sE s u i x = false := by
  rw [hbad,List.any_eq_false]
  intro z hz
  obtain ⟨k,hk,rfl⟩ := List.getElem_of_mem hz
  simp [hall k hk hk]
 rw [List.take_length]
 exact ⟨fun e => ⟨by rw [hr2,hb0,decide_eq_false (by omega)]; rfl,_,eG⟩,fun e => ⟨by rw [hr2,hb0,decide_eq_true (by omega)]; rfl,_,eG⟩⟩
end
end Go.Proofs.Ab
namespace Go.Proofs.Ab
open Go Go.Proofs
variable {w0 : World} {h : Heap}
attribute [local irreducible] ACall aT aW aM aQ rvC rdC lp rg dr ex un rv rd'
theorem oW {H : Heap} {v : AV} {l : List Int} (hv : SlO w0 H v l) (hl : l.length < 1000000) : ∃ y H',eP w0 H 1 8 .nilS v = some (y,H') ∧ aB H H' ∧ iD w0 H' H.length y l := by
 by_cases hl0 : l = []
 · refine ⟨.nilS,H,?_,aB.refl,?_⟩
   · simp [eP,hv.e hl0]
   · subst hl0
     exact ⟨⟨.inl ⟨rfl,rfl⟩,fun _ => rfl⟩,fun e => absurd rfl e,fun _ => .inl rfl⟩
 · rcases hv.s with ⟨_,e2⟩ | ⟨q,full,⟨es',rfl,he⟩,_,s3⟩
   · exact absurd (by simpa using e2) hl0
   · have hr2 := Sl.all (by simpa using hl0) s3
     have hlen : l.length ≠ 0 := fun e => hl0 (List.eq_nil_of_length_eq_zero e)
     have ho : (aP l).all one = true := by simp [aP,List.all_eq_true,one]
     have hsz : l.length * (8 + 1) ≤ 2 ^ 40 := by omega
     rw [← dS,List.length_map,Nat.mul_one] at hr2
     refine ⟨.sl (.own H.length 0) l.length 1 false,H ++ [some (.row (aP l))],?_,aB.refl.app,?_⟩
     · simp only [eP,srcOf,he,mQ,if_true,List.length_map,Nat.mul_one,hr2,Option.map_some,Option.bind_some]
       rw [if_neg hlen,if_pos ⟨hsz,ho⟩]
       rfl
     · have := hT (w0 := w0) (H := H ++ [some (Blk.row (aP l))]) (full := false) (io := H.length) (rows := l.map fun z => [AV.int .i64 z]) (es := 1) (by rw [← dS]; simp) (fun c hc => by obtain ⟨z,_,rfl⟩ := List.mem_map.1 hc; rfl)
       rw [List.length_map] at this
       exact ⟨⟨this,fun e => absurd e hl0⟩,fun _ => ⟨H.length,Nat.le_refl _,by simp,rfl,by simp⟩,fun e => absurd e hl0⟩
structure MvI (w0 : World) (G : Heap) (c : Nat) (nv : StV) (a b e : Nat) (H : Heap) (n : aJ) : Prop where
 sub : aB G H
 hc : H[c]? = some (some (.row (stC nv)))
 p : gD w0 H G.length a nv.pl n.planes
 l : gD w0 H G.length b nv.le n.legs
 e : gD w0 H G.length e nv.pe n.people
structure MvX (N c a b e : Nat) : Prop where
 c0 : N ≤ c
 a0 : N ≤ a
 b0 : N ≤ b
 e0 : N ≤ e
 ac : a ≠ c
 bc : b ≠ c
 ec : e ≠ c
 ab : a ≠ b
 ae : a ≠ e
 be : b ≠ e
section
variable {G H : Heap} {c a b e : Nat} {nv : StV} {n : aJ}
theorem MvI.putP (m : MvI w0 G c nv a b e H n) (x : MvX G.length c a b e) {j : Nat} (hj : j < n.planes.length) (t : Int) : MvI w0 G c nv a b e (H.set a (some (.row (aP (n.planes.set j t))))) ⟨n.planes.set j t,n.legs,n.people⟩ := by
 obtain ⟨_,_,_,h4⟩ := m.p.b (fun e => by rw [e] at hj; simp at hj)
 exact ⟨m.sub.setR x.a0,by rw [List.getElem?_set_ne x.ac]; exact m.hc,m.p.put hj t,m.l.set h4 (by simp [aP]) (fun _ => x.ab.symm),m.e.set h4 (by simp [aP]) (fun _ => x.ae.symm)⟩
theorem MvI.putL (m : MvI w0 G c nv a b e H n) (x : MvX G.length c a b e) {j : Nat} (hj : j < n.legs.length) (t : Int) : MvI w0 G c nv a b e (H.set b (some (.row (aP (n.legs.set j t))))) ⟨n.planes,n.legs.set j t,n.people⟩ := by
 obtain ⟨_,_,_,h4⟩ := m.l.b (fun e => by rw [e] at hj; simp at hj)
 exact ⟨m.sub.setR x.b0,by rw [List.getElem?_set_ne x.bc]; exact m.hc,m.p.set h4 (by simp [aP]) (fun _ => x.ab),m.l.put hj t,m.e.set h4 (by simp [aP]) (fun _ => x.be.symm)⟩
theorem MvI.putE (m : MvI w0 G c nv a b e H n) (x : MvX G.length c a b e) {j : Nat} (hj : j < n.people.length) (t : Int) : MvI w0 G c nv a b e (H.set e (some (.row (aP (n.people.set j t))))) ⟨n.planes,n.legs,n.people.set j t⟩ := by
 obtain ⟨_,_,_,h4⟩ := m.e.b (fun e => by rw [e] at hj; simp at hj)
 exact ⟨m.sub.setR x.e0,by rw [List.getElem?_set_ne x.ec]; exact m.hc,m.p.set h4 (by simp [aP]) (fun _ => x.ae),m.l.set h4 (by simp [aP]) (fun _ => x.be),m.e.put hj t⟩
end
theorem iD.id {H : Heap} {N : Nat} {y : AV} {l : List Int} (a : iD w0 H N y l) (M k : Nat) (hM : H.length ≤ M) (hk : N ≤ M + k) : ∃ id,N ≤ id ∧ (id < H.length ∨ id = M + k) ∧ gD w0 H N id y l := by
 obtain ⟨id,i1,i2⟩ := a.i
 by_cases hl : l = []
 · exact ⟨M + k,hk,.inr rfl,i2.o,fun e => absurd hl e,i2.z⟩
 · exact ⟨id,i1 hl,.inl (i2.b hl).2.1,i2⟩
end Go.Proofs.Ab
namespace Go.Proofs.Ab
open Go Go.Proofs
variable {w0 : World} {h : Heap}
attribute [local irreducible] ACall aT aW aM aQ rvC rdC lp rg dr ex un rv rd'
def RFlyK (w0 : World) (h : Heap) (d : aN) (s : aJ) (sv : StV) (op : Int) (u : List aE) (y : AV) (h' : Heap) : Prop :=
 aB h h' ∧ ∃ nv,y = .tup [.agg (stC nv),.int .i64 (oA d s op u).2.1,.int .i64 (oA d s op u).2.2] ∧ StS w0 h' (oA d s op u).1 nv ∧ ((nv = sv ∧ (oA d s op u).1 = s) ∨ yF w0 h' h.length (oA d s op u).1 nv)
theorem aHS {d : aN} {s : aJ} {op : Int} {u : List aE} {j : Nat} (hj : j < u.length) : rL d s op u (u.drop j) j = if oK d s op u j ≠ 1 then some (oK d s op u j,(j : Int)) else rL d s op u (u.drop (j + 1)) (j + 1) := by
 rw [List.drop_eq_getElem_cons hj,rL]
theorem aFe {u : List aE} {n : aJ} {j : Nat} (hj : j < u.length) : mvL (u.drop j) j n = mvL (u.drop (j + 1)) (j + 1) (if u[j].to < 0 then n else gW n j u[j]) := by
 rw [List.drop_eq_getElem_cons hj,mvL]
theorem rfly_c (d : aN) (v : cA) (s : aJ) (sv : StV) (op : Int) (u : List aE) (uv : AV) (hR : hZ w0 h d v) (hs : StS w0 h s sv) (hU : UnV w0 h uv u) (dg : iJ d) (sk : iM d s) (uk : qQ d u) (o1 : 0 ≤ op) (o2 : op < 2 ^ 50) :
 ACall Try.prog w0 56 [.agg (aU v),.agg (stC sv),.int .i64 op,uv] h (RFlyK w0 h d s sv op u) := by
 refine bC aG aIs mf56_b mf56_g (Nat.le_of_ble_eq_true rfl) fun hb ha => aR ?_
 obtain ⟨y1,y2,y3,y4,y5⟩ := hR.ones
 obtain ⟨l1,l2,l3,l4,l5⟩ := hR.lens
 obtain ⟨q1,q2,q3⟩ := hs.ones
 have lu := NS.len hU
 have ul := uk.len
 have dp := dg.pn
 have dl := dg.pe
 obtain ⟨G,eG⟩ : ∃ G,G = h ++ [some (Blk.row [v.pl,v.ln,v.pn,v.pe,v.we]),some (Blk.row [sv.pl,sv.le,sv.pe]),some (Blk.row [.nilS,.nilS,.nilS])] := ⟨_,rfl⟩
 have sG : aB h G := eG ▸ aB.refl.app
 have gl : G.length = h.length + 3 := by rw [eG]; simp
 have g0 : G[h.length]? = some (some (.row [v.pl,v.ln,v.pn,v.pe,v.we])) := by rw [eG]; simp
 have g1 : G[h.length + 1]? = some (some (.row [sv.pl,sv.le,sv.pe])) := by rw [eG]; simp
 have g2 : G[h.length + 2]? = some (some (.row [.nilS,.nilS,.nilS])) := by rw [eG]; simp
 have b0 : ∀ L,(G ++ L)[h.length]? = some (some (.row [v.pl,v.ln,v.pn,v.pe,v.we])) := fun L => aA g0
 have b1 : ∀ L,(G ++ L)[h.length + 1]? = some (some (.row [sv.pl,sv.le,sv.pe])) := fun L => aA g1
 have b2 : ∀ L,(G ++ L)[h.length + 2]? = some (some (.row [.nilS,.nilS,.nilS])) := fun L => aA g2
 have hRG := hR.sub sG
 have hsG := hs.sub sG
 have hUG := hU.sub sG
 simp only [go_sem,mf56,aU,stC,y1,y2,y3,y4,y5,q1,q2,q3]
 rw [← eG]
 refine cK (S := Unit) (fun j _ => [(2,.int .i64 op),(3,uv),(4,.ptr (.own h.length 0)),(5,.ptr (.own (h.length + 1) 0)),(8,.ptr (.own (h.length + 2) 0)),(11,.int .i64 j)]) (fun _ _ => G) (fun j _ => rL d s op u u 0 = rL d s op u (u.drop j) j) u.length () rfl rfl rfl (fun j _ hj hall ih => ?_) (fun _ hall => ?_)
 · refine aC aG aC7 [2,3,4,5,8,11] L56_0.eq_1 ?_
   have i3 : (j : Int) < u.length := by omega
   rw [aHS hj] at hall
   simp only [go_sem,g0,g1,b0,b1,y1,y2,y3,y4,y5,q1,q2,q3,lu,i3]
   refine aH (aDI op u uv j hj hRG hsG hUG dg sk uk o1 o2).v ?_
   obtain ⟨r,er⟩ : ∃ r,r = oK d s op u j := ⟨_,rfl⟩
   rw [← er] at hall ⊢
   have z1 : (G.set (h.length + 2) (some (Blk.row [sv.pl,sv.le,sv.pe])))[h.length + 2]? = some (some (Blk.row [sv.pl,sv.le,sv.pe])) := List.getElem?_set_self (by omega)
   simp only [go_sem,g0,g1,g2,b0,b1,b2,q1,q2,q3,z1]
   refine ⟨fun e => ?_,fun e => ⟨(by unfold I64; omega),ih () (by rw [hall,if_neg (by simpa using e)])⟩⟩
   rw [if_pos e] at hall
   refine ⟨(sG.setR (by omega)),sv,?_⟩
   rw [oA,hall]
   exact ⟨rfl,hs.sub (sG.setR (by omega)),.inl ⟨rfl,rfl⟩⟩
 refine aC aG aC7 [2,3,4,5,8,11] L56_0.eq_1 ?_
 have i3 : ¬ (u.length : Int) < u.length := by omega
 rw [List.drop_length,rL] at hall
 have hF : oA d s op u = if (List.range d.places.length).any (eO d (mvL u 0 s)) then (s,7,-1) else (mvL u 0 s,1,-1) := by rw [oA,hall]
 simp only [go_sem,lu,i3]
 refine wB aG D56_0.eq_1 (by kernel_rfl) ?_
 obtain ⟨w1,H1,ap1,s1,ow1⟩ := oW hsG.planes (by have := sk.s1; omega)
 simp only [go_sem,g1,b1,ap1]
 have g1a := s1.2 _ _ g1
 obtain ⟨w2,H2,ap2,s2,ow2⟩ := oW (hsG.legs.sub s1) (by have := sk.s2; omega)
 simp only [go_sem,g1a,ap2]
 have g1b := s2.2 _ _ g1a
 obtain ⟨w3,H3,ap3,s3,ow3⟩ := oW (hsG.people.sub (s1.trans s2)) (by have := sk.s3; omega)
 have n1 := s1.1
 have n2 := s2.1
 have n3 := s3.1
 have c1 := ow1.o.s.one
 have c2 := ow2.o.s.one
 have c3 := ow3.o.s.one
 simp only [go_sem,g1b,ap3,c1.1,c1.2,c2.1,c2.2,c3.1,c3.2]
 obtain ⟨H,eH⟩ : ∃ H,H = H3 ++ [some (Blk.row [w1,w2,w3])] := ⟨_,rfl⟩
 rw [← eH]
 have s4 : aB H3 H := eH ▸ aB.refl.app
 have sGH : aB G H := s1.trans (s2.trans (s3.trans s4))
 have hl : H.length = H3.length + 1 := by rw [eH]; simp
 obtain ⟨ia,ja,ka,a1⟩ := ow1.id H3.length 1 (by omega) (by omega)
 obtain ⟨ib,jb,kb,a2⟩ := ow2.id H3.length 2 (by omega) (by omega)
 obtain ⟨ie,je,ke,a3⟩ := ow3.id H3.length 3 (by omega) (by omega)
 have X : MvX G.length H3.length ia ib ie := ⟨by omega,by omega,by omega,by omega,by omega,by omega,by omega,by omega,by omega,by omega⟩
 have M0 : MvI w0 G H3.length ⟨w1,w2,w3⟩ ia ib ie H s := ⟨sGH,by rw [eH]; simp [stC],a1.sub (s2.trans (s3.trans s4)),(a2.less n1).sub (s3.trans s4),(a3.less (by omega)).sub s4⟩
 refine cK (S := Heap × aJ) (fun j _ => [(3,uv),(4,.ptr (.own h.length 0)),(5,.ptr (.own (h.length + 1) 0)),(8,.ptr (.own (h.length + 2) 0)),(13,.ptr (.own H3.length 0)),(14,.int .i64 j)]) (fun _ st => st.1)
  (fun j st => MvI w0 G H3.length ⟨w1,w2,w3⟩ ia ib ie st.1 st.2 ∧ mvL u 0 s = mvL (u.drop j) j st.2 ∧ (st.2.planes.length = s.planes.length ∧ st.2.legs.length = s.legs.length ∧ st.2.people.length = s.people.length) ∧ ∀ x ∈ st.2.legs,0 ≤ x ∧ x < 1000000 + j) u.length (H,s) ⟨M0,rfl,⟨rfl,rfl,rfl⟩,fun x hx => by have := sk.lg x hx; omega⟩ rfl rfl (fun j st hj I ih => ?_) (fun st I => ?_)
 · refine aC aG aC5 [3,4,5,8,13,14] L56_2.eq_1 ?_
   obtain ⟨K,n⟩ := st
   obtain ⟨M,hm,⟨e1,e2,e3⟩,lb⟩ := I
   simp only at M hm e1 e2 e3 lb ih ⊢
   have i4 : (j : Int) < u.length := by omega
   obtain ⟨fp,pv,f1,f2,f3,f4,f5⟩ := (hUG.sub M.sub).at_ hj
   have f3' := f3 []
   have f4' := f4 []
   rw [List.append_nil] at f3' f4'
   rw [aFe hj] at hm
   simp only [go_sem,lu,i4,f1,f3,f3']
   refine ⟨fun t0 => ⟨(by unfold I64; omega),?_⟩,fun t0 => ?_⟩
   · rw [if_pos t0] at hm
     have := ih (K,n) ⟨M,hm,⟨e1,e2,e3⟩,fun x hx => by have := lb x hx; omega⟩
     simpa using this
   rw [if_neg t0] at hm
   have hjp : j < n.planes.length := by have := sk.s1; omega
   have hjl : j < n.legs.length := by have := sk.s2; omega
   obtain ⟨z1,z2,z3,z4⟩ := M.p.use hjp
   obtain ⟨x1,x2,x3,x4⟩ := M.l.use hjl
   have z2' := z2 []
   have z3' := z3 []
   have x2' := x2 []
   have x3' := x3 []
   rw [List.append_nil] at z2' z3' x2' x3'
   have mc := M.hc
   have mcL : ∀ L,(K ++ L)[H3.length]? = some (some (.row [w1,w2,w3])) := fun L => aA mc
   simp only [stC] at mc
   have hlb := lb _ (List.getElem_mem hjl)
   refine qJ aG [0,1,2,3,4,5,6,7,8,9,10,11,12,13,14,15,16,17,18,19,20] [o_ 55 (.addr (.t 13) 0),o_ 56 (l_ 55),o_ 57 (m_ 14),o_ 58 (.addr (.t 13) 1),o_ 59 (l_ 58),o_ 60 (m_ 14),o_ 61 (m_ 3),o_ 62 (m_ 14),o_ 63 (.idxs 2 (.t 61) (.t 62)),o_ 64 (.addr (.t 63) 0),o_ 65 (l_ 64),o_ 66 (.addr (.t 13) 1),o_ 67 (l_ 66),o_ 68 (m_ 14),o_ 69 (.idxs 1 (.t 67) (.t 68)),o_ 70 (l_ 69),o_ 71 (.bin .add (.t 70) (i_ 1)),o_ 72 (.idxs 1 (.t 56) (.t 57)),.op none none (.store (.t 72) (.t 65) 1)] [([(4,o_ 59 (l_ 58))],[o_ 73 (.idxs 1 (.t 59) (.t 60)),.op none none (.store (.t 73) (.t 71) 1)])] rfl rfl (by kernel_rfl) ?_
   simp only [go_sem,mc,mcL,f1,f3,f3',z1,z2,z2',z3,z3',x1,x2,x2',x3,x3']
   have il1 : (aP n.planes).length = n.planes.length := by simp [aP]
   have il2 : (aP n.legs).length = n.legs.length := by simp [aP]
   rw [fF hjp]
   have M1 := M.putP X hjp u[j].to
   have M2 := M1.putL X (j := j) hjl (n.legs[j] + 1)
   obtain ⟨K1,eK1⟩ : ∃ K1,K1 = K.set ia (some (.row (aP (n.planes.set j u[j].to)))) := ⟨_,rfl⟩
   rw [← eK1] at M1 M2 ⊢
   have mc1 := M1.hc
   simp only [stC] at mc1
   obtain ⟨x5,x6,_,_⟩ := M1.l.use (j := j) hjl
   simp only at x5 x6
   have x6' := x6 []
   rw [List.append_nil] at x6'
   refine ⟨⟨by omega,by omega⟩,by omega,?_⟩
   simp only [go_sem,mc1,x6,x6',il2]
   rw [fF hjl]
   obtain ⟨K2,eK2⟩ : ∃ K2,K2 = K1.set ib (some (.row (aP (n.legs.set j (n.legs[j] + 1))))) := ⟨_,rfl⟩
   rw [← eK2] at M2 ⊢
   refine ⟨by omega,?_⟩
   have hmem := List.getElem_mem hj
   have hplq := (uk.ok dg.pe).pl _ hmem
   refine cK (S := Heap × List Int) (fun q _ => [(3,uv),(4,.ptr (.own h.length 0)),(5,.ptr (.own (h.length + 1) 0)),(8,.ptr (.own (h.length + 2) 0)),(13,.ptr (.own H3.length 0)),(14,.int .i64 j),(15,.int .i64 q)]) (fun _ st => st.1)
    (fun q st => MvI w0 G H3.length ⟨w1,w2,w3⟩ ia ib ie st.1 ⟨n.planes.set j u[j].to,n.legs.set j (n.legs[j] + 1),st.2⟩ ∧ st.2.length = s.people.length ∧ st.2 = (u[j].people.take q).foldl (fun l n => l.set n.toNat u[j].to) n.people) u[j].people.length (K2,n.people) ⟨M2,e3,rfl⟩ rfl rfl (fun q st hq Iq iq => ?_) (fun st Iq => ?_)
   · refine aC aG aC6 [3,4,5,8,13,14,15] L56_1.eq_1 ?_
     obtain ⟨K5,pe⟩ := st
     obtain ⟨F5,lpe,epe⟩ := Iq
     simp only at F5 lpe epe iq ⊢
     obtain ⟨fp,pv,f1,f2,f3,f4,f5⟩ := (hUG.sub F5.sub).at_ hj
     have f3' := f3 []
     have f4' := f4 []
     rw [List.append_nil] at f3' f4'
     have lpv := (SlI.use f5).1
     have e4 : (q : Int) < u[j].people.length := by omega
     obtain ⟨t,t1,t2,t3⟩ := SlI.at_ f5 hq
     have hx := (uk.pp _ hmem).1 _ (List.getElem_mem hq)
     obtain ⟨x,ex'⟩ : ∃ x : Nat,u[j].people[q] = x := ⟨u[j].people[q].toNat,by omega⟩
     have hxl : x < pe.length := by have := sk.s3; omega
     obtain ⟨v1,v2,v3,v4⟩ := F5.e.use (j := x) hxl
     simp only at v1 v2 v3
     have v2' := v2 []
     rw [List.append_nil] at v2'
     have an : u[j].people[q].toNat = x := by omega
     have hx0 := hx.1
     have il3 : (aP pe).length = pe.length := by simp [aP]
     have mc5 := F5.hc
     simp only [stC] at mc5
     simp only [go_sem,f1,f3,f3',f4,f4',lpv,e4,t1,t2,t3,an,hx0,mc5,v1,v2,v2',il3]
     rw [fF hxl]
     have F6 := F5.putE (j := x) X hxl u[j].to
     simp only at F6
     refine ⟨by omega,(by unfold I64; omega),?_⟩
     have := iq (K5.set ie (some (.row (aP (pe.set x u[j].to)))),pe.set x u[j].to) ⟨F6,by simp only [List.length_set]; exact lpe,by
      simp only
      rw [List.take_add_one,List.getElem?_eq_getElem hq,List.foldl_append,← epe]
      simp [ex']⟩
     simpa using this
   · refine aC aG aC6 [3,4,5,8,13,14,15] L56_1.eq_1 ?_
     obtain ⟨K5,pe⟩ := st
     obtain ⟨F5,lpe,epe⟩ := Iq
     simp only at F5 lpe epe ⊢
     obtain ⟨fp,pv,f1,f2,f3,f4,f5⟩ := (hUG.sub F5.sub).at_ hj
     have f4' := f4 []
     rw [List.append_nil] at f4'
     have lpv := (SlI.use f5).1
     have e4 : ¬ (u[j].people.length : Int) < u[j].people.length := by omega
     simp only [go_sem,f1,f4,f4',lpv,e4]
     rw [List.take_length] at epe
     have emv : gW n j u[j] = ⟨n.planes.set j u[j].to,n.legs.set j (n.legs[j] + 1),pe⟩ := by rw [gW,aD hjl,← epe]
     refine ⟨(by unfold I64; omega),?_⟩
     have := ih (K5,gW n j u[j]) ⟨by rw [emv]; exact F5,hm,?_,fun x hx => ?_⟩
     · simpa using this
     · have := aDN n j u[j]
       exact ⟨this.1.trans e1,this.2.1.trans e2,this.2.2.trans e3⟩
     · rw [emv] at hx
       rcases List.mem_or_eq_of_mem_set hx with hx | hx
       · have := lb x hx; omega
       · omega
 refine aC aG aC5 [3,4,5,8,13,14] L56_2.eq_1 ?_
 obtain ⟨K,n⟩ := st
 obtain ⟨M,hm,⟨e1,e2,e3⟩,lb⟩ := I
 simp only at M hm e1 e2 e3 lb ⊢
 have i4 : ¬ (u.length : Int) < u.length := by omega
 rw [List.drop_length,mvL] at hm
 have mc := M.hc
 simp only [stC] at mc
 have k0 := M.sub.2 _ _ g0
 have k1 := M.sub.2 _ _ g1
 have k2 := M.sub.2 _ _ g2
 simp only [go_sem,lu,i4,k0,mc,y1,y2,y3,y4,y5]
 refine aH (wC d v n w1 (hRG.sub M.sub).toDayS M.p.o.s hR.l1 (by have := sk.s1; omega)).v ?_
 rw [hm] at hF
 cases e5 : (List.range d.places.length).any (eO d n) with
 | true =>
  have z1 : (K.set (h.length + 2) (some (Blk.row [sv.pl,sv.le,sv.pe])))[h.length + 2]? = some (some (Blk.row [sv.pl,sv.le,sv.pe])) := List.getElem?_set_self (aK k2)
  simp only [go_sem,k1,k2,q1,q2,q3,z1]
  refine ⟨(sG.trans M.sub).setR (by omega),sv,?_⟩
  rw [hF,e5,if_pos rfl]
  exact ⟨rfl,hs.sub ((sG.trans M.sub).setR (by omega)),.inl ⟨rfl,rfl⟩⟩
 | false =>
  have z1 : (K.set (h.length + 2) (some (Blk.row [w1,w2,w3])))[h.length + 2]? = some (some (Blk.row [w1,w2,w3])) := List.getElem?_set_self (aK k2)
  simp only [go_sem,mc,k2,c1.1,c1.2,c2.1,c2.2,c3.1,c3.2,z1]
  have x1 := X.a0
  have x2 := X.b0
  have x3 := X.e0
  refine ⟨(sG.trans M.sub).setR (by omega),⟨w1,w2,w3⟩,?_⟩
  rw [hF,e5,if_neg (by simp)]
  have p1 := M.p.set (c' := [w1,w2,w3]) k2 rfl fun _ => by omega
  have p2 := M.l.set (c' := [w1,w2,w3]) k2 rfl fun _ => by omega
  have p3 := M.e.set (c' := [w1,w2,w3]) k2 rfl fun _ => by omega
  exact ⟨rfl,⟨p1.o,p2.o,p3.o⟩,.inr ⟨p1.toL (by omega),p2.toL (by omega),p3.toL (by omega)⟩⟩
end Go.Proofs.Ab
namespace Go.Proofs.Ab
open Go Go.Proofs
variable {w : World} {h : Heap} {cs : List Value}
def aAd : Rw := .int (.sl (.int .nil) .nil)
def aEx : Rw := .sl aAd .nil
theorem aDu {v : Value} (g : nO w aAd v) : ∃ u : List aE,UnV w h (inj v) u ∧ u.length ≤ 9223372036854775807 := by
 obtain ⟨rows,h1,h2,h3⟩ := pJ (h := h) g
 obtain ⟨l,rfl,hl⟩ := kW (f := fun x : AV × aE => [.int .i64 x.2.to,x.1]) (p := fun x => SlI w h x.1 x.2.people) (rows := rows) fun c hc => by
  obtain ⟨cs,rfl,n,_,rfl,_,u,_,rfl,g2,rfl⟩ := h3 c hc
  obtain ⟨q,hq,_⟩ := aCe (h := h) g2
  exact ⟨(inj u,⟨n,q⟩),rfl,hq⟩
 refine ⟨l.map Prod.snd,⟨_,by simp,h1,fun j x c hx hc => ?_⟩,by simpa using h2⟩
 simp only [List.getElem?_map,Option.map_eq_some_iff] at hx hc
 obtain ⟨a,a1,rfl⟩ := hx
 obtain ⟨b,b1,rfl⟩ := hc
 rw [a1] at b1; cases b1
 exact ⟨a.1,rfl,hl _ (List.mem_of_getElem? a1)⟩
end Go.Proofs.Ab
namespace Go.Proofs.Ab
open Go Go.Proofs
variable {w0 : World} {h : Heap}
attribute [local irreducible] ACall aT aW aM aQ rvC rdC lp rg dr ex un rv rd'
theorem StS.nil {H : Heap} : StS w0 H ⟨[],[],[]⟩ ⟨.nilS,.nilS,.nilS⟩ := ⟨⟨.inl ⟨rfl,rfl⟩,fun _ => rfl⟩,⟨.inl ⟨rfl,rfl⟩,fun _ => rfl⟩,⟨.inl ⟨rfl,rfl⟩,fun _ => rfl⟩⟩
end Go.Proofs.Ab
namespace Go.Proofs.Ab
open Go Go.Proofs
variable {w0 : World} {h : Heap}
attribute [local irreducible] ACall aT aW aM aQ rvC rdC lp rg dr ex un rv rd'
section
variable {d : aN} {v : cA} {pol : dJ} {pv : AV}
theorem nW.row (a : nW w0 h pv pol) {j : Nat} (hj : j < pol.length) : ∃ (p : Pl) (x : AV),bY 1 pv (some j) = some (.ptr p) ∧ (∀ L,rd w0 (h ++ L) p = some x) ∧ rd w0 h p = some x ∧ NS w0 h 1 (aEl w0 h) x pol[j] := by
 obtain ⟨p,c,i,r,x,rfl,s⟩ := NS.at_ a hj
 have t : ∀ L,rd w0 (h ++ L) p = some x := fun L => xC (r L) rfl
 have t' := t []
 rw [List.append_nil] at t'
 exact ⟨p,x,i,t,t',s⟩
theorem qT {x : AV} {l : List (List aE)} (a : NS w0 h 1 (aEl w0 h) x l) {j : Nat} (hj : j < l.length) : ∃ (p : Pl) (y : AV),bY 1 x (some j) = some (.ptr p) ∧ (∀ L,rd w0 (h ++ L) p = some y) ∧ rd w0 h p = some y ∧ UnV w0 h y l[j] := by
 obtain ⟨p,c,i,r,y,rfl,s⟩ := NS.at_ a hj
 have t : ∀ L,rd w0 (h ++ L) p = some y := fun L => xC (r L) rfl
 have t' := t []
 rw [List.append_nil] at t'
 exact ⟨p,y,i,t,t',s⟩
def qV (pol : dJ) : Bool := pol.all (fun r => decide (r.length ≤ 12) && r.all mC) && decide (pol.length ≤ 12)
theorem aER (hP : nW w0 h pv pol) (hl : pol.length ≤ 9223372036854775807) (hu : ∀ r ∈ pol,∀ u ∈ r,u.length ≤ 9223372036854775807) : aM Try.prog w0 57 [pv] h (.bool (qV pol)) h := by
 refine aI aG aIr mf57_b mf57_g (Nat.le_of_ble_eq_true rfl) (by simp [AV.bdd,AV.bdds]) fun hb ha => aR ?_
 have lp := NS.len hP
 simp only [go_sem,mf57]
 refine bZ (fun j => [(0,pv),(3,.int .i64 j)]) (fun j => ∀ hj : j < pol.length,pol[j].length ≤ 12 ∧ pol[j].all mC = true) pol.length rfl (fun j hj hi ih => ?_) (fun es => ?_)
 · refine aC aG aC3 [0,3] L57_1.eq_1 ?_
   have i3 : (j : Int) < pol.length := by omega
   obtain ⟨p,x,i,t,t',sx'⟩ := hP.row hj
   have lx := NS.len sx'
   have hno : (decide (pol[j].length ≤ 12) && pol[j].all mC) = false → qV pol = false := fun e => by
    have : pol.all (fun r => decide (r.length ≤ 12) && r.all mC) = false := List.all_eq_false.2 ⟨_,List.getElem_mem hj,by simp only [e]; exact Bool.false_ne_true⟩
    simp only [qV,this,Bool.false_and]
   simp only [go_sem,lp,i3,i,t,t',lx]
   refine ⟨fun e => by rw [hno (by rw [decide_eq_false (by omega),Bool.false_and])],fun e => ?_⟩
   refine bZ (fun q => [(0,pv),(3,.int .i64 j),(4,.int .i64 q)]) (fun q => ∀ hq : q < pol[j].length,mC pol[j][q] = true) pol[j].length rfl (fun q hq hi2 ih2 => ?_) (fun es2 => ?_)
   · refine aC aG aC4 [0,3,4] L57_0.eq_1 ?_
     have i4 : (q : Int) < pol[j].length := by omega
     obtain ⟨p2,y,i2,t2,t2',sy⟩ := qT sx' hq
     simp only [go_sem,i4,i,t,t',lx,i2,t2,t2']
     have hc := thin_c pol[j][q] y sy (hu _ (List.getElem_mem hj) _ (List.getElem_mem hq))
     rw [← List.append_nil h] at hc
     refine aH hc.v ?_
     cases e1 : mC pol[j][q] with
     | false =>
      simp only [go_sem]
      rw [hno]
      rw [List.all_eq_false.2 ⟨_,List.getElem_mem hq,by simp [e1]⟩,Bool.and_false]
     | true =>
      simp only [go_sem]
      exact ⟨(by unfold I64; omega),ih2 fun _ => e1⟩
   · refine aC aG aC4 [0,3,4] L57_0.eq_1 ?_
     have i4 : ¬ (pol[j].length : Int) < pol[j].length := by omega
     simp only [go_sem,i4,i,t,t',lx]
     exact ⟨(by unfold I64; omega),ih fun _ => ⟨by omega,List.all_eq_true.2 fun u hu => by
      obtain ⟨q,hq,rfl⟩ := List.getElem_of_mem hu
      exact es2 q hq hq⟩⟩
 refine aC aG aC3 [0,3] L57_1.eq_1 ?_
 have x1 : ¬ (pol.length : Int) < pol.length := by omega
 have h5 : ((pol.length : Int) ≤ 12) = (pol.length ≤ 12) := by simp only [eq_iff_iff]; omega
 simp only [go_sem,lp,x1,h5]
 have : pol.all (fun r => decide (r.length ≤ 12) && r.all mC) = true := List.all_eq_true.2 fun r hr => by
  obtain ⟨i,hi,rfl⟩ := List.getElem_of_mem hr
  obtain ⟨a,b⟩ := es i hi hi
  rw [b,decide_eq_true a]; rfl
 rw [qV,this,Bool.true_and]
def oM (d : aN) (pol : dJ) : Bool := pol.all (fun r => decide (r.length = aX d) && r.all (dK d)) && decide (pol.length = d.weathers.length)
theorem aDE (hR : hZ w0 h d v) (hP : nW w0 h pv pol) (hw : d.weathers ≠ []) (hs : aX d < 1000000) (hl : pol.length < 1000000) (hr : ∀ r ∈ pol,r.length < 1000000 ∧ ∀ u ∈ r,u.length < 1000000 ∧ ∀ x ∈ u,x.people.length < 1000000) : aM Try.prog w0 45 [.agg (aU v),pv] h (.bool (oM d pol)) h := by
 refine aI aG aIy mf45_b mf45_g (Nat.le_of_ble_eq_true rfl) (by simp [AV.bdd,AV.bdds]) fun hb ha => aR ?_
 obtain ⟨o1,o2,o3,o4,o5⟩ := hR.ones
 obtain ⟨l1,l2,l3,l4,l5⟩ := hR.lens
 have lp := NS.len hP
 obtain ⟨G,eG⟩ : ∃ G,G = h ++ [some (Blk.row [v.pl,v.ln,v.pn,v.pe,v.we])] := ⟨_,rfl⟩
 have sG : aB h G := eG ▸ aB.refl.app
 have g0 : G[h.length]? = some (some (.row [v.pl,v.ln,v.pn,v.pe,v.we])) := by rw [eG]; simp
 have b0 : ∀ L,(G ++ L)[h.length]? = some (some (.row [v.pl,v.ln,v.pn,v.pe,v.we])) := fun L => aA g0
 have hRG := hR.sub sG
 have hPG := hP.sub sG
 simp only [go_sem,mf45,aU,o1,o2,o3,o4,o5]
 rw [← eG]
 refine bZ (fun j => [(1,pv),(2,.ptr (.own h.length 0)),(5,.int .i64 j)]) (fun j => ∀ hj : j < pol.length,pol[j].length = aX d ∧ pol[j].all (dK d) = true) pol.length rfl (fun j hj hi ih => ?_) (fun es => ?_)
 · refine aC aG aDe [1,2,5] L45_1.eq_1 ?_
   have i3 : (j : Int) < pol.length := by omega
   obtain ⟨p,x,i,t,t',sx'⟩ := hPG.row hj
   have lx := NS.len sx'
   have hrj := hr _ (List.getElem_mem hj)
   have hno : (decide (pol[j].length = aX d) && pol[j].all (dK d)) = false → oM d pol = false := fun e => by
    have : pol.all (fun r => decide (r.length = aX d) && r.all (dK d)) = false := List.all_eq_false.2 ⟨_,List.getElem_mem hj,by simp only [e]; exact Bool.false_ne_true⟩
    simp only [oM,this,Bool.false_and]
   simp only [go_sem,lp,i3,i,t,t',lx,g0,b0,o1,o2,o3,o4,o5]
   refine dZ (aE1 d v hRG.toDayS hw).v ?_
   simp only [go_sem]
   refine ⟨fun e => ⟨by rw [hno (by rw [decide_eq_false (by omega),Bool.false_and])],_,eG⟩,fun e => ?_⟩
   refine bZ (fun q => [(1,pv),(2,.ptr (.own h.length 0)),(5,.int .i64 j),(6,.int .i64 q)]) (fun q => ∀ hq : q < pol[j].length,dK d pol[j][q] = true) pol[j].length rfl (fun q hq hi2 ih2 => ?_) (fun es2 => ?_)
   · refine aC aG aDf [1,2,5,6] L45_0.eq_1 ?_
     have i4 : (q : Int) < pol[j].length := by omega
     obtain ⟨p2,y,i2,t2,t2',sy⟩ := qT sx' hq
     have huq := hrj.2 _ (List.getElem_mem hq)
     simp only [go_sem,i4,i,t,t',lx,i2,t2,t2',g0,b0,o1,o2,o3,o4,o5]
     refine dZ (aHJ d v pol[j][q] y hRG sy huq.1 huq.2).v ?_
     cases e1 : dK d pol[j][q] with
     | false =>
      simp only [go_sem]
      exact ⟨by rw [hno (by rw [List.all_eq_false.2 ⟨_,List.getElem_mem hq,by simp [e1]⟩,Bool.and_false])],_,eG⟩
     | true =>
      simp only [go_sem]
      exact ⟨(by unfold I64; omega),ih2 fun _ => e1⟩
   · refine aC aG aDf [1,2,5,6] L45_0.eq_1 ?_
     have i4 : ¬ (pol[j].length : Int) < pol[j].length := by omega
     simp only [go_sem,i4,i,t,t',lx]
     exact ⟨(by unfold I64; omega),ih fun _ => ⟨by omega,List.all_eq_true.2 fun u hu => by
      obtain ⟨q,hq,rfl⟩ := List.getElem_of_mem hu
      exact es2 q hq hq⟩⟩
 refine aC aG aDe [1,2,5] L45_1.eq_1 ?_
 have x1 : ¬ (pol.length : Int) < pol.length := by omega
 have h5 : ((pol.length : Int) == d.weathers.length) = decide (pol.length = d.weathers.length) := by rw [Bool.eq_iff_iff]; simp; omega
 simp only [go_sem,lp,x1,h5,g0,b0,l5]
 have : pol.all (fun r => decide (r.length = aX d) && r.all (dK d)) = true := List.all_eq_true.2 fun r hr => by
  obtain ⟨i,hi,rfl⟩ := List.getElem_of_mem hr
  obtain ⟨a,b⟩ := es i hi hi
  rw [b,decide_eq_true a]; rfl
 exact ⟨by rw [oM,this,Bool.true_and],_,eG⟩
end
end Go.Proofs.Ab
namespace Go.Proofs.Ab
open Go Go.Proofs
variable {w0 : World} {h : Heap}
attribute [local irreducible] ACall aT aW aM aQ rvC rdC lp rg dr ex un rv rd'
theorem aEX (x y : aE) (pv qv : AV) (hx : SlI w0 h pv x.people) (hy : SlI w0 h qv y.people) (hn : x.people.length < 1000000) : aM Try.prog w0 144 [.agg [.int .i64 x.to,pv],.agg [.int .i64 y.to,qv]] h (.bool (decide (x = y))) h := by
 refine aI aG aFq aIZ aIY (Nat.le_of_ble_eq_true rfl) (by simp [AV.bdd,AV.bdds]) fun hb ha => aR ?_
 have o1 := hx.one.1
 have o2 := hy.one.1
 have c5 : (x.to == y.to) = decide (x.to = y.to) := by rw [Bool.eq_iff_iff]; simp
 simp only [go_sem,mf144,o1,o2,c5]
 have ee : decide (x = y) = (decide (x.to = y.to) && decide (x.people = y.people)) := by rw [← Bool.decide_and,decide_eq_decide]; exact aE.ext_iff2
 refine ⟨fun e => ?_,fun e => by rw [ee,decide_eq_false e,Bool.false_and]⟩
 refine aH (aCq x.people y.people pv qv (Sl.app hx) (Sl.app hy) hn).v ?_
 simp only [go_sem]
 rw [ee,decide_eq_true e,Bool.true_and]
theorem aHI (a b : List aE) (va vb : AV) (hva : UnV w0 h va a) (hvb : UnV w0 h vb b) (hn : a.length < 1000000) (hp : ∀ x ∈ a,x.people.length < 1000000) : aM Try.prog w0 143 [va,vb,.fn (.func 144) [] []] h (.bool (decide (a = b))) h := by
 refine aI aG aFr aI1 aI0 (Nat.le_of_ble_eq_true rfl) (by simp [AV.bdd,AV.bdds]) fun hb ha => aR ?_
 have ln1 := NS.len hva
 have ln2 := NS.len hvb
 have vb1 := NS.bdd hva (Nat.le_refl _)
 have vb2 := NS.bdd hvb (Nat.le_refl _)
 simp only [go_sem,mf143,ln1,ln2]
 refine ⟨fun e => ?_,fun e => ?_⟩
 · have : a ≠ b := fun x => by subst x; simp at e
   simp [this]
 have el : a.length = b.length := by omega
 refine bZ (fun j => [(1,vb),(2,.fn (.func 144) [] []),(15,va),(16,.int .i64 a.length),(17,.int .i64 j)]) (fun j => ∃ (h1 : j < a.length) (h2 : j < b.length),a[j] = b[j]) a.length rfl (fun j hj hi ih => ?_) (fun hi => ?_)
 · refine aC aG aAE [1,2,15,16,17] L143_0.eq_1 ?_
   have hjb : j < b.length := by omega
   obtain ⟨p1,x1,i1,r1,_,_,s1⟩ := UnV.at_ hva hj
   obtain ⟨p2,x2,i2,r2,_,_,s2⟩ := UnV.at_ hvb hjb
   have e3 : (j : Int) < a.length := by omega
   have o1 := s1.one.1
   have o2 := s2.one.1
   simp only [go_sem,e3,i1,i2,r1,r2,o1,o2]
   refine aH (aEX a[j] b[j] x1 x2 (Sl.app s1) (Sl.app s2) (hp _ (List.getElem_mem hj))).v ?_
   simp only [go_sem]
   refine ⟨fun e => ?_,fun e => ⟨(by unfold I64; omega),fP 0 hb (by simp [bD,bF,bO,bS,cI,bL,AV.bdds,AV.bdd,Pl.bdd,bA]) (by simp [bD,bF,bO,bS,cI,bL,AV.bdds,AV.bdd,Pl.bdd,bA,vb1,vb2]) (ih ⟨hj,hjb,e⟩)⟩⟩
   have : a ≠ b := fun x => by subst x; exact e rfl
   simp [this]
 · refine aC aG aAE [1,2,15,16,17] L143_0.eq_1 ?_
   have e3 : ¬ (a.length : Int) < a.length := by omega
   simp only [go_sem,e3]
   have : a = b := List.ext_getElem el fun j h1 h2 => (hi j h1).2.2
   simp [this]
theorem aEY (a b : List aE) (va vb : AV) (hva : UnV w0 h va a) (hvb : UnV w0 h vb b) (hn : a.length < 1000000) (hp : ∀ x ∈ a,x.people.length < 1000000) : aM Try.prog w0 99 [va,vb] h (.bool (decide (a = b))) h := by
 refine aI aG aHX mf99_b mf99_g (Nat.le_of_ble_eq_true rfl) (by simp [AV.bdd,AV.bdds]) fun hb ha => aR ?_
 simp only [go_sem,mf99]
 refine aH (aHI a b va vb (hva.sub aB.refl.app) (hvb.sub aB.refl.app) hn hp).v ?_
 simp only [go_sem]
end Go.Proofs.Ab

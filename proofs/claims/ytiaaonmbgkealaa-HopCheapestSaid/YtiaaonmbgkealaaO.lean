/- The own layer under the proofs of this seat, part O: what calls of the program come to on an abstract heap. No condition. -/
import Derived.Test.YtiaaonmbgkealaaM
set_option linter.unusedSimpArgs false
set_option linter.unusedVariables false
namespace Go.Proofs.Ab
open Go Go.Proofs
variable {w0 : World} {h : Heap}
attribute [local irreducible] ACall aS aZ aN aQ rvC rdC lp rg dr ex un rv rd'
section
variable {s : aD} {v : StV}
theorem StS.lens (a : StS w0 h s v) : eX v.pl = some (.int .i64 s.planes.length) ∧ eX v.le = some (.int .i64 s.legs.length) ∧ eX v.pe = some (.int .i64 s.people.length) := ⟨(SlI.use a.planes.s).1,(SlI.use a.legs.s).1,(SlI.use a.people.s).1⟩
theorem StS.ones (a : StS w0 h s v) : one v.pl = true ∧ one v.le = true ∧ one v.pe = true := ⟨a.planes.s.one.1,a.legs.s.one.1,a.people.s.one.1⟩
theorem SlI.at_ {x : AV} {l : List Int} (a : SlI w0 h x l) {j : Nat} (hj : j < l.length) : ∃ p : Pl,bZ 1 x (some j) = some (.ptr p) ∧ (∀ L,rd w0 (h ++ L) p = some (.int .i64 l[j])) ∧ rd w0 h p = some (.int .i64 l[j]) := by
 obtain ⟨_,q,qi,qr⟩ := SlI.use a
 have := qr j hj []
 rw [List.append_nil] at this
 exact ⟨_,qi j hj,qr j hj,this⟩
end
theorem UnV.at_ {u : List aB} {v : AV} (a : UnV w0 h v u) {j : Nat} (hj : j < u.length) : ∃ (p : Pl) (pv : AV),bZ 2 v (some j) = some (.ptr p) ∧ (∀ L,rdn w0 (h ++ L) p 2 = some [.int .i64 u[j].to,pv]) ∧ (∀ L,rd w0 (h ++ L) (p.add 0) = some (.int .i64 u[j].to)) ∧ (∀ L,rd w0 (h ++ L) (p.add 1) = some pv) ∧ SlI w0 h pv u[j].people := by
 obtain ⟨p,c,p1,p2,pv,rfl,p3⟩ := NS.at_ a hj
 exact ⟨p,pv,p1,p2,fun L => cT (p2 L) rfl,fun L => cT (p2 L) rfl,p3⟩
def mR (u : List aB) : Bool := u.all (fun x => decide (x.people.length ≤ 12)) && decide (u.length ≤ 12)
theorem thin_c (u : List aB) (v : AV) (hU : UnV w0 h v u) (hl : u.length ≤ 9223372036854775807) : aN Try.prog w0 51 [v] h (.bool (mR u)) h := by
 refine aJ aK aI3 mf51_b mf51_g (Nat.le_of_ble_eq_true rfl) (by simp [AV.bdd,AV.bdds]) fun hb ha => aU ?_
 have l1 := NS.len hU
 simp only [go_sem,mf51]
 refine cJ (fun j => [(0,v),(3,.int .i64 j)]) (fun j => ∀ hj : j < u.length,u[j].people.length ≤ 12) u.length rfl (fun j hj hi ih => ?_) (fun es => ?_)
 · refine aE aK aDP [0,3] L51_0.eq_1 ?_
   have i3 : (j : Int) < u.length := by omega
   obtain ⟨p,pv,p1,_,_,p4,p5⟩ := hU.at_ hj
   have p4' := p4 []
   rw [List.append_nil] at p4'
   have l2 := (SlI.use p5).1
   simp only [go_sem,l1,i3,p1,p4,p4',l2]
   refine ⟨fun e => ?_,fun e => ⟨(by unfold I64; omega),by simpa using ih fun _ => by omega⟩⟩
   have : u.all (fun x => decide (x.people.length ≤ 12)) = false := List.all_eq_false.2 ⟨_,List.getElem_mem hj,by simp; omega⟩
   simp [mR,this]
 refine aE aK aDP [0,3] L51_0.eq_1 ?_
 have x1 : ¬ (u.length : Int) < u.length := by omega
 have h5 : ((u.length : Int) ≤ 12) = (u.length ≤ 12) := by simp only [eq_iff_iff]; omega
 simp only [go_sem,l1,x1,h5]
 have : u.all (fun x => decide (x.people.length ≤ 12)) = true := List.all_eq_true.2 fun x hx => by
  obtain ⟨i,hi,rfl⟩ := List.getElem_of_mem hx
  simpa using es i hi hi
 simp [mR,this]
end Go.Proofs.Ab
namespace Go.Proofs.Ab
open Go Go.Proofs
variable {w0 : World} {h : Heap}
attribute [local irreducible] ACall aS aZ aN aQ rvC rdC lp rg dr ex un rv rd'
def pkB (m : Nat) (l : List Int) (k : Nat) : Bool := inB (l.getD k 0) 0 ((m : Int) - 1) && (decide (k = 0) || decide (l.getD (k - 1) 0 < l.getD k 0))
def flB (d : aO) (x : aB) : Bool := (inB x.to (-1) ((d.places.length : Int) - 1) && (decide (0 ≤ x.to) || decide (x.people.length = 0))) && (List.range x.people.length).all (pkB d.people.length x.people)
def dD (d : aO) (u : List aB) : Bool := u.all (flB d) && decide (u.length = d.planes.length)
theorem pk_lt {m : Nat} {l : List Int} (h : (List.range l.length).all (pkB m l) = true) : (∀ n ∈ l,0 ≤ n ∧ n < m) ∧ l.Pairwise (· < ·) := by
 have h1 := cK.1 h
 refine ⟨fun n hn => ?_,?_⟩
 · obtain ⟨i,hi,rfl⟩ := List.getElem_of_mem hn
   have := h1 i hi
   simp only [pkB,aG hi,inB,Bool.and_eq_true,decide_eq_true_eq] at this
   omega
 · rw [List.pairwise_iff_getElem]
   have key : ∀ (k i j : Nat) (hi : i < l.length) (hj : j < l.length),j = i + 1 + k → l[i] < l[j] := by
    intro k
    induction k with
    | zero =>
     intro i j hi hj e
     have := h1 j hj
     simp only [pkB,aG hj,Bool.and_eq_true,Bool.or_eq_true,decide_eq_true_eq] at this
     have h2 : l.getD (j - 1) 0 = l[i] := by rw [show j - 1 = i by omega,aG hi]
     rw [h2] at this
     omega
    | succ k ih =>
     intro i j hi hj e
     have a := ih i (j - 1) hi (by omega) (by omega)
     have := h1 j hj
     simp only [pkB,aG hj,Bool.and_eq_true,Bool.or_eq_true,decide_eq_true_eq,aG (show j - 1 < l.length by omega)] at this
     omega
   exact fun i j hi hj hij => key (j - i - 1) i j hi hj (by omega)
theorem tK {d : aO} {u : List aB} (h : dD d u = true) : tC d u := by
 simp only [dD,flB,Bool.and_eq_true,List.all_eq_true,decide_eq_true_eq] at h
 obtain ⟨h1,h2⟩ := h
 have h3 : ∀ x ∈ u,(List.range x.people.length).all (pkB d.people.length x.people) = true := fun x hx => List.all_eq_true.2 (h1 x hx).2
 refine ⟨h2,fun x hx => ?_,fun x hx ht => ?_,fun x hx => pk_lt (h3 x hx)⟩
 · have := (h1 x hx).1.1
   simp only [inB,Bool.and_eq_true,decide_eq_true_eq] at this
   omega
 · have := (h1 x hx).1.2
   simp only [Bool.or_eq_true,decide_eq_true_eq] at this
   exact List.eq_nil_of_length_eq_zero (by omega)
theorem tC.ok {d : aO} {u : List aB} (a : tC d u) (h4 : d.people.length ≤ 4) : aCv d u := by
 refine ⟨a.len,fun x hx => (a.to x hx).2,fun x hx => (a.pp x hx).1,fun x hx => ?_⟩
 obtain ⟨h1,h2⟩ := a.pp x hx
 have key : ∀ (l : List Int) (b : Int),l.Pairwise (· < ·) → (∀ n ∈ l,b ≤ n ∧ n < 4) → (l.length : Int) ≤ 4 - b ∨ l = [] := by
  intro l
  induction l with
  | nil => intro b _ _; exact .inr rfl
  | cons a l ih =>
   intro b hp hb
   obtain ⟨p1,p2⟩ := List.pairwise_cons.1 hp
   have hab := hb a (by simp)
   rcases ih (a + 1) p2 (fun n hn => ⟨by have := p1 n hn; omega,(hb n (by simp [hn])).2⟩) with h | h
   · left; simp; omega
   · subst h; left; simp; omega
 rcases key x.people 0 h2 (fun n hn => by have := h1 n hn; omega) with h | h
 · omega
 · rw [h]; simp
theorem aIm (d : aO) (v : cE) (u : List aB) (uv : AV) (hR : jJ w0 h d v) (hU : UnV w0 h uv u) (hn : u.length < 1000000) (hp : ∀ x ∈ u,x.people.length < 1000000) : aN Try.prog w0 55 [.agg (aY v),uv] h (.bool (dD d u)) h := by
 refine mK trivial (bL aK aI2 mf55_b mf55_g (Nat.le_of_ble_eq_true rfl) fun hb ha => aU ?_)
 obtain ⟨l1,l2,l3,l4,l5⟩ := hR.lens
 obtain ⟨o1,o2,o3,o4,o5⟩ := hR.ones
 have n1 := hR.l1
 have n4 := hR.l4
 have lu := NS.len hU
 obtain ⟨K0,eK0⟩ : ∃ K0 : Heap,K0 = h ++ [some (.row (aY v))] := ⟨_,rfl⟩
 have s0 : aC h K0 := eK0 ▸ aC.refl.app
 have g0 : K0[h.length]? = some (some (.row (aY v))) := by rw [eK0]; simp
 have hU0 := hU.sub s0
 simp only [go_sem,mf55,o1,o2,o3,o4,o5]
 rw [show h ++ [some (Blk.row [v.pl,v.ln,v.pn,v.pe,v.we])] = K0 by rw [eK0]; rfl]
 refine gA (S := Nat × Heap) (F := fun s => [(1,uv),(2,.ptr (.own h.length 0)),(5,.int .i64 s.1)]) (H := fun s => s.2) (meas := fun s => u.length - s.1)
  (Inv := fun s => s.1 ≤ u.length ∧ aC K0 s.2 ∧ ∀ (j : Nat) (_ : j < s.1) (hj : j < u.length),flB d u[j] = true) (0,K0) ⟨Nat.zero_le _,aC.refl,fun j hj => absurd hj (by simp)⟩ rfl rfl ?_
 rintro ⟨j,G⟩ ⟨hj,sG,f1⟩ ih
 simp only at hj sG f1 ih
 refine aE aK aK7 [1,2,5] L55_1.eq_1 ?_
 have gG := sG.2 _ _ g0
 have bG : ∀ L,(G ++ L)[h.length]? = some (some (.row (aY v))) := fun L => aA gG
 rcases Nat.lt_or_ge j u.length with hjl | hjl
 · have i3 : (j : Int) < u.length := by omega
   obtain ⟨p,pv,p1,p2K,_,_,p5⟩ := hU0.at_ hjl
   obtain ⟨x,ex⟩ : ∃ x,x = u[j] := ⟨_,rfl⟩
   rw [← ex] at p2K p5
   have p2 : ∀ L,rdn w0 (G ++ L) p 2 = some [.int .i64 x.to,pv] := fun L => (sG.app (L := L)).rdn (by simpa using p2K [])
   have p2' := p2 []
   rw [List.append_nil] at p2'
   have opv := p5.one.1
   have cpv := p5.one.2
   have lpp := (SlI.use p5).1
   have hnp := hp x (by rw [ex]; exact List.getElem_mem hjl)
   have sG2 : ∀ L,aC h (G ++ L) := fun L => s0.trans sG.app
   have hno : flB d x = false → dD d u = false := fun e => by
    have : u.all (flB d) = false := List.all_eq_false.2 ⟨x,by rw [ex]; exact List.getElem_mem hjl,by simp [e]⟩
    simp [dD,this]
   obtain ⟨b6,eb6⟩ : ∃ b,b = G.length := ⟨_,rfl⟩
   have g6 : (G ++ [some (.row [.int .i64 x.to,pv])])[b6]? = some (some (.row [.int .i64 x.to,pv])) := by rw [eb6]; simp
   have g6L : ∀ L,(G ++ [some (.row [.int .i64 x.to,pv])] ++ L)[b6]? = some (some (.row [.int .i64 x.to,pv])) := fun L => aA g6
   simp only [go_sem,lu,i3,gG,bG,aY,p1,p2,p2',opv,cpv,l1]
   refine ⟨(by unfold I64; omega),?_⟩
   refine aI (hT _ _ _).v ?_
   cases e1 : inB x.to (-1) ((d.places.length : Int) - 1) with
   | false =>
    simp only [go_sem]
    exact ⟨sG2 _,by rw [hno (by simp [flB,e1])]⟩
   | true =>
   by_cases t0 : x.to < 0
   focus
    simp only [go_sem,t0,opv,cpv,lpp]
    refine ⟨fun e => ⟨sG2 _,by rw [hno (by
     have h1 : ¬ 0 ≤ x.to := by omega
     have h2 : ¬ x.people.length = 0 := by omega
     simp only [flB,decide_eq_false h1,decide_eq_false h2,Bool.or_false,Bool.and_false,Bool.false_and])]⟩,fun e => ?_⟩
    have e2 : (decide (0 ≤ x.to) || decide (x.people.length = 0)) = true := by
     have : x.people.length = 0 := by omega
     rw [decide_eq_true this,Bool.or_true]
    clear e
   rotate_left
   focus
    simp only [go_sem,t0]
    have e2 : (decide (0 ≤ x.to) || decide (x.people.length = 0)) = true := by
     have : 0 ≤ x.to := by omega
     rw [decide_eq_true this,Bool.true_or]
   all_goals
    rw [← eb6]
    refine cJ (fun k => [(1,uv),(2,.ptr (.own h.length 0)),(5,.int .i64 j),(6,.ptr (.own b6 0)),(7,.int .i64 k)]) (fun k => pkB d.people.length x.people k = true) x.people.length rfl (fun k hk _ ih2 => ?_) (fun f2 => ?_)
    · refine aE aK aDO [1,2,5,6,7] L55_0.eq_1 ?_
      have i4 : (k : Int) < x.people.length := by omega
      obtain ⟨a,a1,a2K,_⟩ := SlI.at_ p5 hk
      have hsG6 : ∀ L,aC K0 (G ++ [some (.row [.int .i64 x.to,pv])] ++ L) := fun L => sG.app.app
      have a2 : ∀ L,rd w0 (G ++ [some (.row [.int .i64 x.to,pv])] ++ L) a = some (.int .i64 x.people[k]) := fun L => (hsG6 L).rd (by simpa using a2K [])
      have a2' := a2 []
      have gG6 : (G ++ [some (Blk.row [.int .i64 x.to,pv])])[h.length]? = some (some (.row (aY v))) := bG _
      have bG6 : ∀ L,(G ++ [some (Blk.row [.int .i64 x.to,pv])] ++ L)[h.length]? = some (some (.row (aY v))) := fun L => aA gG6
      rw [List.append_nil] at a2'
      have hpk : pkB d.people.length x.people k = (inB x.people[k] 0 ((d.people.length : Int) - 1) && (decide (k = 0) || decide (x.people.getD (k - 1) 0 < x.people[k]))) := by rw [pkB,aG hk]
      have hno2 : pkB d.people.length x.people k = false → dD d u = false := fun e => hno (by
       have : (List.range x.people.length).all (pkB d.people.length x.people) = false := List.all_eq_false.2 ⟨k,List.mem_range.2 hk,by simp [e]⟩
       simp only [flB,this,Bool.and_false])
      obtain ⟨G6,eG6⟩ : ∃ G6,G6 = G ++ [some (Blk.row [.int .i64 x.to,pv])] := ⟨_,rfl⟩
      rw [← eG6] at g6 g6L a2 a2' gG6 bG6 ⊢
      rw [← eG6] at ih2
      simp only [go_sem,g6,g6L,i4,lpp,a1,a2,a2',gG6,bG6,aY,l4]
      refine ⟨(by unfold I64; omega),?_⟩
      refine fP (hT _ _ _).v ?_
      cases e3 : inB x.people[k] 0 ((d.people.length : Int) - 1) with
      | false =>
       simp only [go_sem]
       exact ⟨eG6 ▸ sG2 _,by rw [hno2 (by rw [hpk,e3]; rfl)]⟩
      | true =>
      rcases k with _ | m
      · simp only [go_sem]
        exact ⟨fun e => absurd e (by simp),fun _ => ⟨(by unfold I64; omega),ih2 (by rw [hpk,e3]; rfl)⟩⟩
      · have hm : m < x.people.length := by omega
        have c0 : (0 : Int) < ((m + 1 : Nat) : Int) := by omega
        have ek : (((m + 1 : Nat) : Int) - 1) = (m : Int) := by omega
        obtain ⟨b,b1,b2K,_⟩ := SlI.at_ p5 hm
        have b2 : ∀ L,rd w0 (G6 ++ L) b = some (.int .i64 x.people[m]) := fun L => by rw [eG6]; exact (hsG6 L).rd (by simpa using b2K [])
        have b2' := b2 []
        rw [List.append_nil] at b2'
        have hpk2 : pkB d.people.length x.people (m + 1) = decide (x.people[m] < x.people[m + 1]) := by
         rw [hpk,e3,Nat.add_sub_cancel,aG hm]; simp
        simp only [go_sem,c0,g6,g6L,a1,a2,a2',ek,b1,b2,b2']
        refine ⟨(by unfold I64; omega),fun e => ?_,fun e => ⟨(by unfold I64; omega),ih2 (by rw [hpk2]; exact decide_eq_true (by omega))⟩⟩
        exact ⟨eG6 ▸ sG2 _,by rw [hno2 (by rw [hpk2]; exact decide_eq_false (by omega))]⟩
    · refine aE aK aDO [1,2,5,6,7] L55_0.eq_1 ?_
      have i4 : ¬ (x.people.length : Int) < x.people.length := by omega
      simp only [go_sem,g6,g6L,i4,lpp]
      have hyes : flB d x = true := by rw [flB,e1,e2,cK.2 f2]; rfl
      have := ih (j + 1,G ++ [some (.row [.int .i64 x.to,pv])]) ⟨by simp only; omega,sG.app,fun q hq hq2 => by
       simp only at hq
       rcases Nat.lt_or_ge q j with h1 | h1
       · exact f1 q h1 hq2
       · obtain rfl : q = j := by omega
         rw [← ex]; exact hyes⟩ (by simp only; omega)
      exact ⟨(by unfold I64; omega),by simpa using this⟩
 · have i3 : ¬ (j : Int) < u.length := by omega
   obtain rfl : j = u.length := by omega
   simp only [go_sem,lu,i3,gG,bG,aY,l3]
   refine ⟨s0.trans sG,?_⟩
   have h1 : u.all (flB d) = true := List.all_eq_true.2 fun y hy => by
    obtain ⟨i,hi,rfl⟩ := List.getElem_of_mem hy
    exact f1 i hi hi
   rw [dD,h1,Bool.true_and]
   have : ((u.length : Int) == d.planes.length) = decide (u.length = d.planes.length) := by
    rw [Bool.eq_iff_iff]; simp; omega
   rw [this]
end Go.Proofs.Ab
namespace Go.Proofs.Ab
open Go Go.Proofs
variable {w0 : World} {h : Heap}
attribute [local irreducible] ACall aS aZ aN aQ rvC rdC lp rg dr ex un rv rd'
theorem allI_c (l : List Int) (v fv : AV) (p : Nat → Bool) (hv : SlI w0 h v l) (hn : l.length < 1000000) (hf : ∀ (j : Nat) (hj : j < l.length) L,aQ Try.prog w0 fv [.int .i64 j,.int .i64 l[j]] (h ++ L) (.bool (p j)) (h ++ L)) :
 aN Try.prog w0 69 [v,fv] h (.bool ((List.range l.length).all p)) h := by
 have := zO (l.map fun z => [AV.int .i64 z]) v fv p hv (by intro r hr; obtain ⟨z,_,rfl⟩ := List.mem_map.1 hr; rfl) (by simpa using hn) fun j x hx _ L => by
  have hj : j < l.length := by have := aL hx; simpa using this
  have : x = .int .i64 l[j] := by simpa [hj] using hx.symm
  subst this
  exact hf j hj L
 rwa [List.length_map] at this
section
variable {d : aO} {v : cE} {m : AV} {i ib : Nat}
end
section
variable {d : aO} {v : cE} {m : AV} {i ib ix : Nat}
theorem aIy (x : aB) (pv : AV) (k : Nat) (hk : k < x.people.length) (hd : h[i]? = some (some (.row (aY v ++ [m])))) (hR : jJ w0 h d v) (hi : h[ib]? = some (some (.row [.ptr (.own i 0)]))) (hx : h[ix]? = some (some (.row [.int .i64 x.to,pv]))) (hp : SlI w0 h pv x.people) (hl : x.people.length < 1000000) :
 aN Try.prog w0 135 [.int .i64 k,.int .i64 x.people[k],.ptr (.own ib 0),.ptr (.own ix 0)] h (.bool (pkB d.people.length x.people k)) h := by
 refine aJ aK aGa aJL aJK (Nat.le_of_ble_eq_true rfl) (by simp [AV.bdd,AV.bdds]) fun hb ha => aU ?_
 obtain ⟨l1,l2,l3,l4,l5⟩ := hR.lens
 have n4 := hR.l4
 have bi : ∀ L,(h ++ L)[ib]? = some (some (.row [.ptr (.own i 0)])) := fun L => aA hi
 have bx : ∀ L,(h ++ L)[ix]? = some (some (.row [.int .i64 x.to,pv])) := fun L => aA hx
 have bd : ∀ L,(h ++ L)[i]? = some (some (.row (aY v ++ [m]))) := fun L => aA hd
 simp only [aY,List.cons_append,List.nil_append] at bd
 have bi' := bi []
 have bx' := bx []
 have bd' := bd []
 simp only [List.append_nil] at bi' bx' bd'
 have hpk : pkB d.people.length x.people k = (inB x.people[k] 0 ((d.people.length : Int) - 1) && (decide (k = 0) || decide (x.people.getD (k - 1) 0 < x.people[k]))) := by rw [pkB,aG hk]
 rw [hpk]
 simp only [go_sem,mf135,bi,bd,bx,l4]
 refine ⟨(by unfold I64; omega),?_⟩
 refine aI (lC _ _ _).v ?_
 cases e1 : inB x.people[k] 0 ((d.people.length : Int) - 1) with
 | false => simp only [go_sem]; rfl
 | true =>
 rcases k with _ | k
 · simp only [go_sem]
   exact ⟨fun e => absurd rfl e,fun _ => rfl⟩
 have hk2 : k < x.people.length := by omega
 obtain ⟨a,a1,a2,a3⟩ := SlI.at_ hp hk2
 have ek : (((k + 1 : Nat) : Int) - 1) = (k : Int) := by omega
 have c0 : (((k + 1 : Nat) : Int) == 0) = false := by simp; omega
 simp only [go_sem,bi',bd',bx',bi,bd,bx,ek,a1,a2,a3,c0]
 refine ⟨(by unfold I64; omega),?_⟩
 rw [Nat.add_sub_cancel,aG hk2,Bool.false_or]
theorem aAY (j : Nat) (x : aB) (pv : AV) (hd : h[i]? = some (some (.row (aY v ++ [m])))) (hR : jJ w0 h d v) (hi : h[ib]? = some (some (.row [.ptr (.own i 0)]))) (hp : SlI w0 h pv x.people) (hl : x.people.length < 1000000) :
 aN Try.prog w0 134 [.int .i64 j,.agg [.int .i64 x.to,pv],.ptr (.own ib 0)] h (.bool (flB d x)) h := by
 refine aJ aK aGb aJN aJM (Nat.le_of_ble_eq_true rfl) (by simp [AV.bdd,AV.bdds]) fun hb ha => aU ?_
 obtain ⟨l1,l2,l3,l4,l5⟩ := hR.lens
 have n1 := hR.l1
 have k1 := (SlI.use hp).1
 have o1 := hp.one.1
 obtain ⟨G,eG⟩ : ∃ G,G = h ++ [some (Blk.row [.int .i64 x.to,pv])] := ⟨_,rfl⟩
 have sG : aC h G := eG ▸ aC.refl.app
 have gx : G[h.length]? = some (some (.row [.int .i64 x.to,pv])) := by rw [eG]; simp
 have gi := sG.2 _ _ hi
 have gd := sG.2 _ _ hd
 simp only [aY,List.cons_append,List.nil_append] at gd
 have bi : ∀ L,(G ++ L)[ib]? = some (some (.row [.ptr (.own i 0)])) := fun L => aA gi
 have bx : ∀ L,(G ++ L)[h.length]? = some (some (.row [.int .i64 x.to,pv])) := fun L => aA gx
 have bd : ∀ L,(G ++ L)[i]? = some (some (.row [v.pl,v.ln,v.pn,v.pe,v.we,m])) := fun L => aA gd
 simp only [go_sem,mf134,o1]
 rw [← eG]
 refine aI (allI_c x.people pv (.fn (.func 135) [] [.ptr (.own ib 0),.ptr (.own h.length 0)]) (pkB d.people.length x.people) (Sl.sub hp sG) hl fun k hk L => ?_).v ?_
 · exact (aIy (i := i) (v := v) (m := m) x pv k hk (aA gd) (hR.sub sG.app) (bi L) (bx L) (Sl.sub hp sG.app) hl).vc (first := []) (capt := [_,_])
 simp only [go_sem,gi,gd,gx,bi,bx,bd,l1]
 refine ⟨(by unfold I64; omega),?_⟩
 refine fP (lC _ _ _).v ?_
 cases f1 : inB x.to (-1) ((d.places.length : Int) - 1) with
 | false => simp only [go_sem]; exact ⟨by simp [flB,f1],_,eG⟩
 | true =>
 cases f2 : (List.range x.people.length).all (pkB d.people.length x.people) with
 | false => simp only [go_sem]; exact ⟨by simp only [flB,f1,f2,Bool.and_false],_,eG⟩
 | true =>
 have c5 : ∀ a : Nat,((a : Int) == 0) = decide (a = 0) := fun a => by rw [Bool.eq_iff_iff]; simp
 have hf : flB d x = (decide (0 ≤ x.to) || decide (x.people.length = 0)) := by rw [flB,f1,f2,Bool.true_and,Bool.and_true]
 rw [hf]
 by_cases t0 : 0 ≤ x.to
 · simp only [go_sem,gx,bx,t0,k1,c5]
   exact ⟨rfl,_,eG⟩
 · simp only [go_sem,gx,bx,t0,k1,c5]
   exact ⟨rfl,_,eG⟩
theorem aFb (u : List aB) (uv : AV) (hd : h[i]? = some (some (.row (aY v ++ [m])))) (hR : jJ w0 h d v) (hU : UnV w0 h uv u) (hn : u.length < 1000000) (hp : ∀ x ∈ u,x.people.length < 1000000) : aN Try.prog w0 93 [.ptr (.own i 0),uv] h (.bool (dD d u)) h := by
 refine aJ aK aID mf93_b mf93_g (Nat.le_of_ble_eq_true rfl) (by simp [AV.bdd,AV.bdds]) fun hb ha => aU ?_
 obtain ⟨l1,l2,l3,l4,l5⟩ := hR.lens
 have lu := NS.len hU
 have bd : ∀ L,(h ++ L)[i]? = some (some (.row (aY v ++ [m]))) := fun L => aA hd
 simp only [aY,List.cons_append,List.nil_append] at bd
 have hil := aL hd
 have c5 : ∀ a b : Nat,((a : Int) == b) = decide (a = b) := fun a b => by rw [Bool.eq_iff_iff]; simp; omega
 simp only [go_sem,mf93,bd,l3,lu,c5]
 refine ⟨fun e1 => ?_,fun e1 => by simp only [dD,decide_eq_false e1,Bool.and_false]⟩
 obtain ⟨rows,r1,r2,r3⟩ := hU
 have hrow : ∀ j c,rows[j]? = some c → ∃ (hj : j < u.length) (pv : AV),c = [.int .i64 u[j].to,pv] ∧ SlI w0 h pv u[j].people := fun j c hc => by
  have hj : j < u.length := by have := aL hc; omega
  obtain ⟨pv,rfl,p3⟩ := r3 j _ c (List.getElem?_eq_getElem hj) hc
  exact ⟨hj,pv,rfl,p3⟩
 have key : (List.range rows.length).all (fun j => flB d (u.getD j ⟨-1,[]⟩)) = u.all (flB d) := by rw [r1,cW]
 have hu : dD d u = u.all (flB d) := by simp only [dD,decide_eq_true e1,Bool.and_true]
 rw [hu,← key]
 refine aI (aHs rows uv (.fn (.func 134) [] [.ptr (.own h.length 0)]) (fun j => flB d (u.getD j ⟨-1,[]⟩)) (r2.sub aC.refl.app) ?_ (by omega) fun j c hc _ L => ?_).v ?_
 · intro c hc
   obtain ⟨j,hj,rfl⟩ := List.getElem_of_mem hc
   obtain ⟨_,pv,e,p3⟩ := hrow j _ (List.getElem?_eq_getElem hj)
   rw [e]
   simp only [List.all_cons,List.all_nil,p3.one.1,Bool.and_true]; rfl
 · obtain ⟨hj,pv,rfl,p3⟩ := hrow j c hc
   rw [aG hj]
   exact (aAY (i := i) (v := v) (m := m) j u[j] pv (by rw [List.append_assoc]; exact aA hd) (hR.sub aC.refl.app.app) (aA (by simp)) (Sl.sub p3 aC.refl.app.app) (hp _ (List.getElem_mem hj))).vc (first := []) (capt := [_])
 simp only [go_sem]
end
end Go.Proofs.Ab
namespace Go.Proofs.Ab
open Go Go.Proofs
variable {w0 : World} {h : Heap}
attribute [local irreducible] ACall aS aZ aN aQ rvC rdC lp rg dr ex un rv rd'
theorem aKS {d : aO} {v : cE} {m : AV} {i : Nat} (e : dO d = true) (hd : h[i]? = some (some (.row (aY v ++ [m])))) (hR : jJ w0 h d v) : oF w0 h d v m i := by
 have dg := jF e
 exact ⟨hd,hR,dg.pe,dg.pn,fun p hp => by have := (dg.people p hp).2.2.1; omega⟩
theorem iS.set {H : Heap} {N k : Nat} {y : AV} {l : List Int} {c c' : List AV} (a : iS w0 H N y l) (hk : H[k]? = some (some (.row c))) (hc : c'.length = c.length) (hN : k < N) : iS w0 (H.set k (some (.row c'))) N y l := by
 obtain ⟨id,i1,a1⟩ := a.i
 exact (a1.set (c' := c') hk hc fun e => by have := i1 e; omega).toL (Nat.le_refl _)
theorem aBm.set {H : Heap} {N k : Nat} {s : aD} {sv : StV} {c c' : List AV} (a : aBm w0 H N s sv) (hk : H[k]? = some (some (.row c))) (hc : c'.length = c.length) (hN : k < N) : aBm w0 (H.set k (some (.row c'))) N s sv := ⟨a.p.set hk hc hN,a.l.set hk hc hN,a.e.set hk hc hN⟩
theorem aBm.here {H : Heap} {N : Nat} {s : aD} {sv : StV} (a : aBm w0 H N s sv) : StS w0 H s sv := ⟨a.p.o,a.l.o,a.e.o⟩
end Go.Proofs.Ab
namespace Go.Proofs.Ab
open Go Go.Proofs
variable {w0 : World} {h : Heap}
attribute [local irreducible] ACall aS aZ aN aQ rvC rdC lp rg dr ex un rv rd'
section
variable {d : aO} {v : cE} {s : aD} {sv : StV}
end
end Go.Proofs.Ab
namespace Go.Proofs.Ab
open Go Go.Proofs
variable {w0 : World} {h : Heap}
attribute [local irreducible] ACall aS aZ aN aQ rvC rdC lp rg dr ex un rv rd'
section
variable {d : aO} {v : cE} {s : aD} {sv : StV}
end
end Go.Proofs.Ab
namespace Go.Proofs.Ab
open Go Go.Proofs
variable {w0 : World} {h : Heap}
attribute [local irreducible] ACall aS aZ aN aQ rvC rdC lp rg dr ex un rv rd'
structure MvI (w0 : World) (G : Heap) (c : Nat) (nv : StV) (a b e : Nat) (H : Heap) (n : aD) : Prop where
 sub : aC G H
 hc : H[c]? = some (some (.row (stC nv)))
 p : gR w0 H G.length a nv.pl n.planes
 l : gR w0 H G.length b nv.le n.legs
 e : gR w0 H G.length e nv.pe n.people
structure MvX (N c a b e : Nat) : Prop where
 c0 : N ≤ c
 a0 : N ≤ a
 b0 : N ≤ b
 e0 : N ≤ e
 ac : a ≠ c
 bc : b ≠ c
 ec : e ≠ c
 ab : a ≠ b
 ae : a ≠ e
 be : b ≠ e
section
variable {G H : Heap} {c a b e : Nat} {nv : StV} {n : aD}
theorem MvI.putP (m : MvI w0 G c nv a b e H n) (x : MvX G.length c a b e) {j : Nat} (hj : j < n.planes.length) (t : Int) : MvI w0 G c nv a b e (H.set a (some (.row (aR (n.planes.set j t))))) ⟨n.planes.set j t,n.legs,n.people⟩ := by
 obtain ⟨_,_,_,h4⟩ := m.p.b (fun e => by rw [e] at hj; simp at hj)
 exact ⟨m.sub.setR x.a0,by rw [List.getElem?_set_ne x.ac]; exact m.hc,m.p.put hj t,m.l.set h4 (by simp [aR]) (fun _ => x.ab.symm),m.e.set h4 (by simp [aR]) (fun _ => x.ae.symm)⟩
theorem MvI.putL (m : MvI w0 G c nv a b e H n) (x : MvX G.length c a b e) {j : Nat} (hj : j < n.legs.length) (t : Int) : MvI w0 G c nv a b e (H.set b (some (.row (aR (n.legs.set j t))))) ⟨n.planes,n.legs.set j t,n.people⟩ := by
 obtain ⟨_,_,_,h4⟩ := m.l.b (fun e => by rw [e] at hj; simp at hj)
 exact ⟨m.sub.setR x.b0,by rw [List.getElem?_set_ne x.bc]; exact m.hc,m.p.set h4 (by simp [aR]) (fun _ => x.ab),m.l.put hj t,m.e.set h4 (by simp [aR]) (fun _ => x.be.symm)⟩
theorem MvI.putE (m : MvI w0 G c nv a b e H n) (x : MvX G.length c a b e) {j : Nat} (hj : j < n.people.length) (t : Int) : MvI w0 G c nv a b e (H.set e (some (.row (aR (n.people.set j t))))) ⟨n.planes,n.legs,n.people.set j t⟩ := by
 obtain ⟨_,_,_,h4⟩ := m.e.b (fun e => by rw [e] at hj; simp at hj)
 exact ⟨m.sub.setR x.e0,by rw [List.getElem?_set_ne x.ec]; exact m.hc,m.p.set h4 (by simp [aR]) (fun _ => x.ae),m.l.set h4 (by simp [aR]) (fun _ => x.be),m.e.put hj t⟩
end
theorem iS.id {H : Heap} {N : Nat} {y : AV} {l : List Int} (a : iS w0 H N y l) (M k : Nat) (hM : H.length ≤ M) (hk : N ≤ M + k) : ∃ id,N ≤ id ∧ (id < H.length ∨ id = M + k) ∧ gR w0 H N id y l := by
 obtain ⟨id,i1,i2⟩ := a.i
 by_cases hl : l = []
 · exact ⟨M + k,hk,.inr rfl,i2.o,fun e => absurd hl e,i2.z⟩
 · exact ⟨id,i1 hl,.inl (i2.b hl).2.1,i2⟩
end Go.Proofs.Ab
namespace Go.Proofs.Ab
open Go Go.Proofs
variable {w0 : World} {h : Heap}
attribute [local irreducible] ACall aS aZ aN aQ rvC rdC lp rg dr ex un rv rd'
end Go.Proofs.Ab
namespace Go.Proofs.Ab
open Go Go.Proofs
variable {w : World} {h : Heap} {cs : List Value}
def aAX : Rw := .int (.sl (.int .nil) .nil)
def aE9 : Rw := .sl aAX .nil
theorem aD8 {v : Value} (g : nY w aAX v) : ∃ u : List aB,UnV w h (inj v) u ∧ u.length ≤ 9223372036854775807 := by
 obtain ⟨rows,h1,h2,h3⟩ := pQ (h := h) g
 obtain ⟨l,rfl,hl⟩ := lL (f := fun x : AV × aB => [.int .i64 x.2.to,x.1]) (p := fun x => SlI w h x.1 x.2.people) (rows := rows) fun c hc => by
  obtain ⟨cs,rfl,n,_,rfl,_,u,_,rfl,g2,rfl⟩ := h3 c hc
  obtain ⟨q,hq,_⟩ := aC1 (h := h) g2
  exact ⟨(inj u,⟨n,q⟩),rfl,hq⟩
 refine ⟨l.map Prod.snd,⟨_,by simp,h1,fun j x c hx hc => ?_⟩,by simpa using h2⟩
 simp only [List.getElem?_map,Option.map_eq_some_iff] at hx hc
 obtain ⟨a,a1,rfl⟩ := hx
 obtain ⟨b,b1,rfl⟩ := hc
 rw [a1] at b1; cases b1
 exact ⟨a.1,rfl,hl _ (List.mem_of_getElem? a1)⟩
end Go.Proofs.Ab
namespace Go.Proofs.Ab
open Go Go.Proofs
variable {w0 : World} {h : Heap}
attribute [local irreducible] ACall aS aZ aN aQ rvC rdC lp rg dr ex un rv rd'
theorem StS.nil {H : Heap} : StS w0 H ⟨[],[],[]⟩ ⟨.nilS,.nilS,.nilS⟩ := ⟨⟨.inl ⟨rfl,rfl⟩,fun _ => rfl⟩,⟨.inl ⟨rfl,rfl⟩,fun _ => rfl⟩,⟨.inl ⟨rfl,rfl⟩,fun _ => rfl⟩⟩
end Go.Proofs.Ab
namespace Go.Proofs.Ab
open Go Go.Proofs
variable {w0 : World} {h : Heap}
attribute [local irreducible] ACall aS aZ aN aQ rvC rdC lp rg dr ex un rv rd'
section
variable {d : aO} {v : cE} {pol : dA} {pv : AV}
theorem pF.row (a : pF w0 h pv pol) {j : Nat} (hj : j < pol.length) : ∃ (p : Pl) (x : AV),bZ 1 pv (some j) = some (.ptr p) ∧ (∀ L,rd w0 (h ++ L) p = some x) ∧ rd w0 h p = some x ∧ NS w0 h 1 (aEY w0 h) x pol[j] := by
 obtain ⟨p,c,i,r,x,rfl,s⟩ := NS.at_ a hj
 have t : ∀ L,rd w0 (h ++ L) p = some x := fun L => yL (r L) rfl
 have t' := t []
 rw [List.append_nil] at t'
 exact ⟨p,x,i,t,t',s⟩
theorem xY {x : AV} {l : List (List aB)} (a : NS w0 h 1 (aEY w0 h) x l) {j : Nat} (hj : j < l.length) : ∃ (p : Pl) (y : AV),bZ 1 x (some j) = some (.ptr p) ∧ (∀ L,rd w0 (h ++ L) p = some y) ∧ rd w0 h p = some y ∧ UnV w0 h y l[j] := by
 obtain ⟨p,c,i,r,y,rfl,s⟩ := NS.at_ a hj
 have t : ∀ L,rd w0 (h ++ L) p = some y := fun L => yL (r L) rfl
 have t' := t []
 rw [List.append_nil] at t'
 exact ⟨p,y,i,t,t',s⟩
def rF (pol : dA) : Bool := pol.all (fun r => decide (r.length ≤ 12) && r.all mR) && decide (pol.length ≤ 12)
theorem aFt (hP : pF w0 h pv pol) (hl : pol.length ≤ 9223372036854775807) (hu : ∀ r ∈ pol,∀ u ∈ r,u.length ≤ 9223372036854775807) : aN Try.prog w0 57 [pv] h (.bool (rF pol)) h := by
 refine aJ aK aI1 mf57_b mf57_g (Nat.le_of_ble_eq_true rfl) (by simp [AV.bdd,AV.bdds]) fun hb ha => aU ?_
 have lp := NS.len hP
 simp only [go_sem,mf57]
 refine cJ (fun j => [(0,pv),(3,.int .i64 j)]) (fun j => ∀ hj : j < pol.length,pol[j].length ≤ 12 ∧ pol[j].all mR = true) pol.length rfl (fun j hj hi ih => ?_) (fun es => ?_)
 · refine aE aK aDM [0,3] L57_1.eq_1 ?_
   have i3 : (j : Int) < pol.length := by omega
   obtain ⟨p,x,i,t,t',sx'⟩ := hP.row hj
   have lx := NS.len sx'
   have hno : (decide (pol[j].length ≤ 12) && pol[j].all mR) = false → rF pol = false := fun e => by
    have : pol.all (fun r => decide (r.length ≤ 12) && r.all mR) = false := List.all_eq_false.2 ⟨_,List.getElem_mem hj,by simp only [e]; exact Bool.false_ne_true⟩
    simp only [rF,this,Bool.false_and]
   simp only [go_sem,lp,i3,i,t,t',lx]
   refine ⟨fun e => by rw [hno (by rw [decide_eq_false (by omega),Bool.false_and])],fun e => ?_⟩
   refine cJ (fun q => [(0,pv),(3,.int .i64 j),(4,.int .i64 q)]) (fun q => ∀ hq : q < pol[j].length,mR pol[j][q] = true) pol[j].length rfl (fun q hq hi2 ih2 => ?_) (fun es2 => ?_)
   · refine aE aK aDN [0,3,4] L57_0.eq_1 ?_
     have i4 : (q : Int) < pol[j].length := by omega
     obtain ⟨p2,y,i2,t2,t2',sy⟩ := xY sx' hq
     simp only [go_sem,i4,i,t,t',lx,i2,t2,t2']
     have hc := thin_c pol[j][q] y sy (hu _ (List.getElem_mem hj) _ (List.getElem_mem hq))
     rw [← List.append_nil h] at hc
     refine aI hc.v ?_
     cases e1 : mR pol[j][q] with
     | false =>
      simp only [go_sem]
      rw [hno]
      rw [List.all_eq_false.2 ⟨_,List.getElem_mem hq,by simp [e1]⟩,Bool.and_false]
     | true =>
      simp only [go_sem]
      exact ⟨(by unfold I64; omega),ih2 fun _ => e1⟩
   · refine aE aK aDN [0,3,4] L57_0.eq_1 ?_
     have i4 : ¬ (pol[j].length : Int) < pol[j].length := by omega
     simp only [go_sem,i4,i,t,t',lx]
     exact ⟨(by unfold I64; omega),ih fun _ => ⟨by omega,List.all_eq_true.2 fun u hu => by
      obtain ⟨q,hq,rfl⟩ := List.getElem_of_mem hu
      exact es2 q hq hq⟩⟩
 refine aE aK aDM [0,3] L57_1.eq_1 ?_
 have x1 : ¬ (pol.length : Int) < pol.length := by omega
 have h5 : ((pol.length : Int) ≤ 12) = (pol.length ≤ 12) := by simp only [eq_iff_iff]; omega
 simp only [go_sem,lp,x1,h5]
 have : pol.all (fun r => decide (r.length ≤ 12) && r.all mR) = true := List.all_eq_true.2 fun r hr => by
  obtain ⟨i,hi,rfl⟩ := List.getElem_of_mem hr
  obtain ⟨a,b⟩ := es i hi hi
  rw [b,decide_eq_true a]; rfl
 rw [rF,this,Bool.true_and]
def mB (d : aO) (pol : dA) : Bool := pol.all (fun r => decide (r.length = aF d) && r.all (dD d)) && decide (pol.length = d.weathers.length)
theorem wP (hR : jJ w0 h d v) (hP : pF w0 h pv pol) (hw : d.weathers ≠ []) (hs : aF d < 1000000) (hl : pol.length < 1000000) (hr : ∀ r ∈ pol,r.length < 1000000 ∧ ∀ u ∈ r,u.length < 1000000 ∧ ∀ x ∈ u,x.people.length < 1000000) : aN Try.prog w0 45 [.agg (aY v),pv] h (.bool (mB d pol)) h := by
 refine aJ aK aI5 mf45_b mf45_g (Nat.le_of_ble_eq_true rfl) (by simp [AV.bdd,AV.bdds]) fun hb ha => aU ?_
 obtain ⟨o1,o2,o3,o4,o5⟩ := hR.ones
 obtain ⟨l1,l2,l3,l4,l5⟩ := hR.lens
 have lp := NS.len hP
 obtain ⟨G,eG⟩ : ∃ G,G = h ++ [some (Blk.row [v.pl,v.ln,v.pn,v.pe,v.we])] := ⟨_,rfl⟩
 have sG : aC h G := eG ▸ aC.refl.app
 have g0 : G[h.length]? = some (some (.row [v.pl,v.ln,v.pn,v.pe,v.we])) := by rw [eG]; simp
 have b0 : ∀ L,(G ++ L)[h.length]? = some (some (.row [v.pl,v.ln,v.pn,v.pe,v.we])) := fun L => aA g0
 have hRG := hR.sub sG
 have hPG := hP.sub sG
 simp only [go_sem,mf45,aY,o1,o2,o3,o4,o5]
 rw [← eG]
 refine cJ (fun j => [(1,pv),(2,.ptr (.own h.length 0)),(5,.int .i64 j)]) (fun j => ∀ hj : j < pol.length,pol[j].length = aF d ∧ pol[j].all (dD d) = true) pol.length rfl (fun j hj hi ih => ?_) (fun es => ?_)
 · refine aE aK aDR [1,2,5] L45_1.eq_1 ?_
   have i3 : (j : Int) < pol.length := by omega
   obtain ⟨p,x,i,t,t',sx'⟩ := hPG.row hj
   have lx := NS.len sx'
   have hrj := hr _ (List.getElem_mem hj)
   have hno : (decide (pol[j].length = aF d) && pol[j].all (dD d)) = false → mB d pol = false := fun e => by
    have : pol.all (fun r => decide (r.length = aF d) && r.all (dD d)) = false := List.all_eq_false.2 ⟨_,List.getElem_mem hj,by simp only [e]; exact Bool.false_ne_true⟩
    simp only [mB,this,Bool.false_and]
   simp only [go_sem,lp,i3,i,t,t',lx,g0,b0,o1,o2,o3,o4,o5]
   refine fP (aAs d v hRG.toDayS hw).v ?_
   simp only [go_sem]
   refine ⟨fun e => ⟨by rw [hno (by rw [decide_eq_false (by omega),Bool.false_and])],_,eG⟩,fun e => ?_⟩
   refine cJ (fun q => [(1,pv),(2,.ptr (.own h.length 0)),(5,.int .i64 j),(6,.int .i64 q)]) (fun q => ∀ hq : q < pol[j].length,dD d pol[j][q] = true) pol[j].length rfl (fun q hq hi2 ih2 => ?_) (fun es2 => ?_)
   · refine aE aK aDS [1,2,5,6] L45_0.eq_1 ?_
     have i4 : (q : Int) < pol[j].length := by omega
     obtain ⟨p2,y,i2,t2,t2',sy⟩ := xY sx' hq
     have huq := hrj.2 _ (List.getElem_mem hq)
     simp only [go_sem,i4,i,t,t',lx,i2,t2,t2',g0,b0,o1,o2,o3,o4,o5]
     refine fP (aIm d v pol[j][q] y hRG sy huq.1 huq.2).v ?_
     cases e1 : dD d pol[j][q] with
     | false =>
      simp only [go_sem]
      exact ⟨by rw [hno (by rw [List.all_eq_false.2 ⟨_,List.getElem_mem hq,by simp [e1]⟩,Bool.and_false])],_,eG⟩
     | true =>
      simp only [go_sem]
      exact ⟨(by unfold I64; omega),ih2 fun _ => e1⟩
   · refine aE aK aDS [1,2,5,6] L45_0.eq_1 ?_
     have i4 : ¬ (pol[j].length : Int) < pol[j].length := by omega
     simp only [go_sem,i4,i,t,t',lx]
     exact ⟨(by unfold I64; omega),ih fun _ => ⟨by omega,List.all_eq_true.2 fun u hu => by
      obtain ⟨q,hq,rfl⟩ := List.getElem_of_mem hu
      exact es2 q hq hq⟩⟩
 refine aE aK aDR [1,2,5] L45_1.eq_1 ?_
 have x1 : ¬ (pol.length : Int) < pol.length := by omega
 have h5 : ((pol.length : Int) == d.weathers.length) = decide (pol.length = d.weathers.length) := by rw [Bool.eq_iff_iff]; simp; omega
 simp only [go_sem,lp,x1,h5,g0,b0,l5]
 have : pol.all (fun r => decide (r.length = aF d) && r.all (dD d)) = true := List.all_eq_true.2 fun r hr => by
  obtain ⟨i,hi,rfl⟩ := List.getElem_of_mem hr
  obtain ⟨a,b⟩ := es i hi hi
  rw [b,decide_eq_true a]; rfl
 exact ⟨by rw [mB,this,Bool.true_and],_,eG⟩
end
end Go.Proofs.Ab
namespace Go.Proofs.Ab
open Go Go.Proofs
variable {w0 : World} {h : Heap}
attribute [local irreducible] ACall aS aZ aN aQ rvC rdC lp rg dr ex un rv rd'
theorem aFz (x y : aB) (pv qv : AV) (hx : SlI w0 h pv x.people) (hy : SlI w0 h qv y.people) (hn : x.people.length < 1000000) : aN Try.prog w0 144 [.agg [.int .i64 x.to,pv],.agg [.int .i64 y.to,qv]] h (.bool (decide (x = y))) h := by
 refine aJ aK aF3 aJx aJw (Nat.le_of_ble_eq_true rfl) (by simp [AV.bdd,AV.bdds]) fun hb ha => aU ?_
 have o1 := hx.one.1
 have o2 := hy.one.1
 have c5 : (x.to == y.to) = decide (x.to = y.to) := by rw [Bool.eq_iff_iff]; simp
 simp only [go_sem,mf144,o1,o2,c5]
 have ee : decide (x = y) = (decide (x.to = y.to) && decide (x.people = y.people)) := by rw [← Bool.decide_and,decide_eq_decide]; exact aB.ext_iff2
 refine ⟨fun e => ?_,fun e => by rw [ee,decide_eq_false e,Bool.false_and]⟩
 refine aI (aDe x.people y.people pv qv (Sl.app hx) (Sl.app hy) hn).v ?_
 simp only [go_sem]
 rw [ee,decide_eq_true e,Bool.true_and]
theorem aIl (a b : List aB) (va vb : AV) (hva : UnV w0 h va a) (hvb : UnV w0 h vb b) (hn : a.length < 1000000) (hp : ∀ x ∈ a,x.people.length < 1000000) : aN Try.prog w0 143 [va,vb,.fn (.func 144) [] []] h (.bool (decide (a = b))) h := by
 refine aJ aK aF4 aJz aJy (Nat.le_of_ble_eq_true rfl) (by simp [AV.bdd,AV.bdds]) fun hb ha => aU ?_
 have ln1 := NS.len hva
 have ln2 := NS.len hvb
 have vb1 := NS.bdd hva (Nat.le_refl _)
 have vb2 := NS.bdd hvb (Nat.le_refl _)
 simp only [go_sem,mf143,ln1,ln2]
 refine ⟨fun e => ?_,fun e => ?_⟩
 · have : a ≠ b := fun x => by subst x; simp at e
   simp [this]
 have el : a.length = b.length := by omega
 refine cJ (fun j => [(1,vb),(2,.fn (.func 144) [] []),(15,va),(16,.int .i64 a.length),(17,.int .i64 j)]) (fun j => ∃ (h1 : j < a.length) (h2 : j < b.length),a[j] = b[j]) a.length rfl (fun j hj hi ih => ?_) (fun hi => ?_)
 · refine aE aK aBp [1,2,15,16,17] L143_0.eq_1 ?_
   have hjb : j < b.length := by omega
   obtain ⟨p1,x1,i1,r1,_,_,s1⟩ := UnV.at_ hva hj
   obtain ⟨p2,x2,i2,r2,_,_,s2⟩ := UnV.at_ hvb hjb
   have e3 : (j : Int) < a.length := by omega
   have o1 := s1.one.1
   have o2 := s2.one.1
   simp only [go_sem,e3,i1,i2,r1,r2,o1,o2]
   refine aI (aFz a[j] b[j] x1 x2 (Sl.app s1) (Sl.app s2) (hp _ (List.getElem_mem hj))).v ?_
   simp only [go_sem]
   refine ⟨fun e => ?_,fun e => ⟨(by unfold I64; omega),fX 0 hb (by simp [bF,bJ,bQ,bU,cM,bO,AV.bdds,AV.bdd,Pl.bdd,bB]) (by simp [bF,bJ,bQ,bU,cM,bO,AV.bdds,AV.bdd,Pl.bdd,bB,vb1,vb2]) (ih ⟨hj,hjb,e⟩)⟩⟩
   have : a ≠ b := fun x => by subst x; exact e rfl
   simp [this]
 · refine aE aK aBp [1,2,15,16,17] L143_0.eq_1 ?_
   have e3 : ¬ (a.length : Int) < a.length := by omega
   simp only [go_sem,e3]
   have : a = b := List.ext_getElem el fun j h1 h2 => (hi j h1).2.2
   simp [this]
theorem aFA (a b : List aB) (va vb : AV) (hva : UnV w0 h va a) (hvb : UnV w0 h vb b) (hn : a.length < 1000000) (hp : ∀ x ∈ a,x.people.length < 1000000) : aN Try.prog w0 99 [va,vb] h (.bool (decide (a = b))) h := by
 refine aJ aK aIz mf99_b mf99_g (Nat.le_of_ble_eq_true rfl) (by simp [AV.bdd,AV.bdds]) fun hb ha => aU ?_
 simp only [go_sem,mf99]
 refine aI (aIl a b va vb (hva.sub aC.refl.app) (hvb.sub aC.refl.app) hn hp).v ?_
 simp only [go_sem]
end Go.Proofs.Ab

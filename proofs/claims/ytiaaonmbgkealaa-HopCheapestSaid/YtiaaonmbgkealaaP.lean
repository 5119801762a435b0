/- The own layer under the proofs of this seat, part P: what calls of the program come to on an abstract heap. No condition. -/
import Derived.Test.YtiaaonmbgkealaaO
import Derived.Test.YtiaaonmbgkealaaM
set_option linter.unusedSimpArgs false
set_option linter.unusedVariables false
namespace Go.Proofs.Ab
open Go Go.Proofs
variable {w0 : World} {h : Heap}
def cfB (d : aO) (pol : dA) (w t : Nat) (u : List aB) : Bool := (List.range w).any fun v => lB d v w t && !decide ((pol.getD v []).getD t [] = u)
def goW (d : aO) (pol : dA) (w : Nat) : List (List aB) → Nat → aD → Except (Int × Int × Int) aD
 | [],_,s => .ok s
 | u :: r,t,s => if cfB d pol w t u then .error (w,t,8) else if (cU d s (wAt d w t) u).2.1 ≠ 1 then .error (w,t,(cU d s (wAt d w t) u).2.1) else goW d pol w r (t + 1) (cU d s (wAt d w t) u).1
def goP (d : aO) (pol : dA) : dA → Nat → Int → Int → Except (Int × Int × Int) (Int × Int)
 | [],_,b,bw => .ok (b,bw)
 | p :: r,w,b,bw => match goW d pol w p 0 (bC d) with
  | .error e => .error e
  | .ok s => if b < iY d s then goP d pol r (w + 1) (iY d s) w else goP d pol r (w + 1) b bw
def iP (d : aO) (pol : dA) : Int × Int × Int × Int × Int := match goP d pol pol 0 (-1) 0 with
 | .error e => (0,0,e)
 | .ok (b,w) => (b,w,0,0,1)
def lV (d : aO) (pol : dA) : Int × Int × Int × Int × Int := if (dO d && mB d pol) = true then iP d pol else (0,0,0,0,0)
def lW (d : aO) (pol : dA) : Int := if (dO d && mB d pol) = true then 0 else 2
def rC (r : Int × Int × Int × Int × Int) : List AV := [.int .i64 r.1,.int .i64 r.2.1,.agg [.int .i64 r.2.2.1,.int .i64 r.2.2.2.1,.int .i64 r.2.2.2.2]]
structure aHI (d : aO) (pol : dA) : Prop where
 len : pol.length = d.weathers.length
 row : ∀ (w : Nat) (hw : w < pol.length),pol[w].length = aF d
 un : ∀ (w : Nat) (hw : w < pol.length) (t : Nat) (ht : t < pol[w].length),dD d pol[w][t] = true
theorem yR {d : aO} {pol : dA} (e : mB d pol = true) : aHI d pol := by
 simp only [mB,Bool.and_eq_true,decide_eq_true_eq,List.all_eq_true] at e
 exact ⟨e.2,fun w hw => (e.1 _ (List.getElem_mem hw)).1,fun w hw t ht => (e.1 _ (List.getElem_mem hw)).2 _ (List.getElem_mem ht)⟩
theorem tC.fl {d : aO} {u : List aB} (a : tC d u) (h4 : d.people.length ≤ 4) : ∀ x ∈ u,sN d x := fun x hx => by
 have k := a.ok h4
 obtain ⟨h1,h2⟩ := a.pp x hx
 refine ⟨(a.to x hx).1,(a.to x hx).2,h1,?_⟩
 have key : ∀ (l : List Int) (b : Int),l.Pairwise (· < ·) → (∀ n ∈ l,b ≤ n ∧ n < d.people.length) → (l.length : Int) ≤ d.people.length - b ∨ l = [] := by
  intro l
  induction l with
  | nil => intro b _ _; exact .inr rfl
  | cons a l ih =>
   intro b hp hb
   obtain ⟨p1,p2⟩ := List.pairwise_cons.1 hp
   have hab := hb a (by simp)
   rcases ih (a + 1) p2 (fun n hn => ⟨by have := p1 n hn; omega,(hb n (by simp [hn])).2⟩) with h | h
   · left; simp; omega
   · subst h; left; simp; omega
 rcases key x.people 0 h2 (fun n hn => h1 n hn) with h | h
 · omega
 · rw [h]; simp
theorem qW {d : aO} (dg : fD d) : StN d 0 (bC d) := ⟨by simp [bC],by simp [bC],by simp [bC],fun x hx => by
 simp only [bC,List.mem_map] at hx
 obtain ⟨p,hp,rfl⟩ := hx
 exact (dg.planes p hp).1,fun x hx => by
 simp only [bC] at hx
 rw [(List.mem_replicate.1 hx).2]; simp,fun x hx => by
 simp only [bC,List.mem_map] at hx
 obtain ⟨p,hp,rfl⟩ := hx
 exact (dg.people p hp).1⟩
theorem wAt_bd {d : aO} (dg : fD d) {w t : Nat} (hw : w < d.weathers.length) (ht : t < aF d) : ∃ h2 : t < d.weathers[w].length,wAt d w t = d.weathers[w][t] ∧ 0 ≤ wAt d w t ∧ wAt d w t < 2 ^ 5 := by
 obtain ⟨h1,h2⟩ := dg.rows _ (List.getElem_mem hw)
 have h3 : t < d.weathers[w].length := by omega
 have e : wAt d w t = d.weathers[w][t] := by rw [wAt,aG hw,aG h3]
 exact ⟨h3,e,by rw [e]; exact h2 _ (List.getElem_mem h3)⟩
theorem uW {d : aO} {pol : dA} {w t : Nat} {s : aD} {l : List (List aB)} (ht : t < l.length) : goW d pol w (l.drop t) t s = if cfB d pol w t l[t] then .error ((w : Int),(t : Int),8) else if (cU d s (wAt d w t) l[t]).2.1 ≠ 1 then .error ((w : Int),(t : Int),(cU d s (wAt d w t) l[t]).2.1) else goW d pol w (l.drop (t + 1)) (t + 1) (cU d s (wAt d w t) l[t]).1 := by
 rw [List.drop_eq_getElem_cons ht,goW]
theorem uY {d : aO} {pol l : dA} {w : Nat} {b bw : Int} (hw : w < l.length) : goP d pol (l.drop w) w b bw = match goW d pol w l[w] 0 (bC d) with
 | .error e => .error e
 | .ok s => if b < iY d s then goP d pol (l.drop (w + 1)) (w + 1) (iY d s) w else goP d pol (l.drop (w + 1)) (w + 1) b bw := by
 rw [List.drop_eq_getElem_cons hw,goP]
theorem wY {ms : List Nat} {A B : Heap} (s : aC A B) : aC (msk ms A) (msk ms B) := rS s.1 fun i b _ e => s.2 i b e
end Go.Proofs.Ab
namespace Go.Proofs.Ab
open Go Go.Proofs
variable {w0 : World} {h : Heap}
attribute [local irreducible] ACall aS aZ aN aQ rvC rdC lp rg dr ex un rv rd'
theorem aFa (d : aO) (v : cE) (m : AV) (i ib : Nat) (j : Int) (u : List aB) (uv : AV) (hd : h[i]? = some (some (.row (aY v ++ [m])))) (hR : jJ w0 h d v) (hb' : h[ib]? = some (some (.row [.ptr (.own i 0)]))) (hU : UnV w0 h uv u) (hn : u.length < 1000000) (hp : ∀ x ∈ u,x.people.length < 1000000) :
 aN Try.prog w0 98 [.int .i64 j,uv,.ptr (.own ib 0)] h (.bool (dD d u)) h := by
 refine aJ aK aIA mf98_b mf98_g (Nat.le_of_ble_eq_true rfl) (by simp [AV.bdd,AV.bdds]) fun hb ha => aU ?_
 have b1 : ∀ L,(h ++ L)[ib]? = some (some (.row [.ptr (.own i 0)])) := fun L => aA hb'
 have b1' := b1 []
 rw [List.append_nil] at b1'
 simp only [go_sem,mf98,b1,b1']
 have hc := aFb (m := m) (i := i) u uv hd hR hU hn hp
 rw [← List.append_nil h] at hc
 refine aI hc.v ?_
 simp only [go_sem]
theorem aDl (d : aO) (v : cE) (pol : dA) (pv : AV) (hR : jJ w0 h d v) (hP : pF w0 h pv pol) (hl : pol.length < 1000000) (hr : ∀ r ∈ pol,r.length < 1000000 ∧ ∀ u ∈ r,u.length < 1000000 ∧ ∀ x ∈ u,x.people.length < 1000000) :
 ACall Try.prog w0 58 [.agg (aY v),pv] h fun y H => aC h H ∧ y = .tup (rC (lV d pol) ++ [.int .i64 (lW d pol)]) := by
 refine bL aK aI0 mf58_b mf58_g (Nat.le_of_ble_eq_true rfl) fun hb ha => aU ?_
 obtain ⟨y1,y2,y3,y4,y5⟩ := hR.ones
 obtain ⟨l1,l2,l3,l4,l5⟩ := hR.lens
 have lp := NS.len hP
 obtain ⟨G,eG⟩ : ∃ G,G = h ++ [some (Blk.row [v.pl,v.ln,v.pn,v.pe,v.we]),some (Blk.row [AV.int .i64 0,AV.int .i64 0,AV.int .i64 0])] := ⟨_,rfl⟩
 have sG : aC h G := eG ▸ aC.refl.app
 have gl : G.length = h.length + 2 := by rw [eG]; simp
 have g0 : G[h.length]? = some (some (.row [v.pl,v.ln,v.pn,v.pe,v.we])) := by rw [eG]; simp
 have g1 : G[h.length + 1]? = some (some (.row [.int .i64 0,.int .i64 0,.int .i64 0])) := by rw [eG]; simp
 have b0 : ∀ L,(G ++ L)[h.length]? = some (some (.row [v.pl,v.ln,v.pn,v.pe,v.we])) := fun L => aA g0
 have b1 : ∀ L,(G ++ L)[h.length + 1]? = some (some (.row [.int .i64 0,.int .i64 0,.int .i64 0])) := fun L => aA g1
 simp only [go_sem,mf58,aY,y1,y2,y3,y4,y5]
 rw [← eG]
 refine aI (xL d v (hR.sub sG)).v ?_
 have fin : ∀ (H : Heap),aC G H → (dO d && mB d pol) = false → aC h (H.set (h.length + 1) (some (Blk.row [.int .i64 0,.int .i64 0,.int .i64 0]))) ∧ AV.tup [.int .i64 0,.int .i64 0,.agg [.int .i64 0,.int .i64 0,.int .i64 0],.int .i64 2] = .tup (rC (lV d pol) ++ [.int .i64 (lW d pol)]) := fun H s e => by
  refine ⟨(sG.trans s).setR (by omega),?_⟩
  rw [lV,lW,e]; rfl
 have z1 : ∀ (H : Heap) x,aC G H → (H.set (h.length + 1) (some (Blk.row x)))[h.length + 1]? = some (some (Blk.row x)) := fun H x s => List.getElem?_set_self (by have := s.1; omega)
 cases e1 : dO d with
 | false =>
  simp only [go_sem,g1,b1,z1 G _ aC.refl]
  exact fin _ aC.refl (by rw [e1]; rfl)
 | true =>
 have dg := jF e1
 simp only [go_sem,g0,b0,l5,lp]
 refine ⟨fun e2 => ?_,fun e2 => ?_⟩
 · simp only [go_sem,g1,b1,z1 G _ aC.refl]
   exact fin _ aC.refl (by rw [mB,decide_eq_false (by omega)]; simp)
 simp only [go_sem,y1,y2,y3,y4,y5]
 obtain ⟨K,eK⟩ : ∃ K,K = G ++ [some (Blk.row [v.pl,v.ln,v.pn,v.pe,v.we,.nilM]),some (Blk.row [.ptr (.own G.length 0)])] := ⟨_,rfl⟩
 have sK : aC G K := eK ▸ aC.refl.app
 have kl : K.length = G.length + 2 := by rw [eK]; simp
 have k0 := sK.2 _ _ g0
 have k1 := sK.2 _ _ g1
 have k2 : K[G.length]? = some (some (.row (aY v ++ [.nilM]))) := by rw [eK]; simp [aY]
 have k3 : K[G.length + 1]? = some (some (.row [.ptr (.own G.length 0)])) := by rw [eK]; simp
 have k0L : ∀ L,(K ++ L)[h.length]? = some (some (.row [v.pl,v.ln,v.pn,v.pe,v.we])) := fun L => aA k0
 have k1L : ∀ L,(K ++ L)[h.length + 1]? = some (some (.row [.int .i64 0,.int .i64 0,.int .i64 0])) := fun L => aA k1
 have k3L : ∀ L,(K ++ L)[G.length + 1]? = some (some (.row [.ptr (.own G.length 0)])) := fun L => aA k3
 rw [← eK]
 have hRK := hR.sub (sG.trans sK)
 have hPK := hP.sub (sG.trans sK)
 simp only [go_sem,lp]
 have hD := aKS e1 k2 hRK
 refine cJ (fun j => [(1,pv),(2,.ptr (.own h.length 0)),(6,.ptr (.own (h.length + 1) 0)),(8,.ptr (.own (G.length + 1) 0)),(37,pv),(38,.int .i64 pol.length),(39,.int .i64 j)]) (fun j => ∀ hj : j < pol.length,pol[j].length = aF d ∧ pol[j].all (dD d) = true) pol.length rfl (fun j hj hi ih => ?_) (fun es => ?_)
 · refine aE aK aDL [1,2,6,8,37,38,39] L58_0.eq_1 ?_
   have i3 : (j : Int) < pol.length := by omega
   obtain ⟨p,x,i,t,t',sx'⟩ := hPK.row hj
   have lx := NS.len sx'
   have hrj := hr _ (List.getElem_mem hj)
   have hno : (decide (pol[j].length = aF d) && pol[j].all (dD d)) = false → (dO d && mB d pol) = false := fun e => by
    have : pol.all (fun r => decide (r.length = aF d) && r.all (dD d)) = false := List.all_eq_false.2 ⟨_,List.getElem_mem hj,by simp only [e]; exact Bool.false_ne_true⟩
    simp only [mB,this,Bool.false_and,Bool.and_false]
   obtain ⟨q0,z0,i0,r0,s0⟩ := pM hD dg
   have r0' := r0 []
   rw [List.append_nil] at r0'
   simp only [go_sem,i3,i,t,t',lx,k0,k0L,i0,r0,r0',s0]
   refine ⟨fun e => ?_,fun e => ?_⟩
   rotate_left
   · simp only [go_sem,k1,k1L,z1 K _ sK]
     exact fin K sK (hno (by rw [decide_eq_false (by omega),Bool.false_and]))
   have hlen : pol[j].length = aF d := by omega
   obtain ⟨rows,r1,r2,r3⟩ := sx'
   have hrow : ∀ q c,rows[q]? = some c → ∃ (hq : q < pol[j].length) (y : AV),c = [y] ∧ UnV w0 K y pol[j][q] := fun q c hc => by
    have hq : q < pol[j].length := by have := aL hc; omega
    obtain ⟨y,rfl,p3⟩ := r3 q _ c (List.getElem?_eq_getElem hq) hc
    exact ⟨hq,y,rfl,p3⟩
   have key : (List.range rows.length).all (fun q => dD d (pol[j].getD q [])) = pol[j].all (dD d) := by rw [r1,cW]
   have hall := aK0 (h := K) rows x (.fn (.func 98) [] [.ptr (.own (G.length + 1) 0)]) (fun q => dD d (pol[j].getD q [])) r2 (fun c hc => by
    obtain ⟨q,hq,rfl⟩ := List.getElem_of_mem hc
    obtain ⟨_,y,e,p3⟩ := hrow q _ (List.getElem?_eq_getElem hq)
    rw [e]
    simp only [List.all_cons,List.all_nil,(NS.one p3).1,Bool.and_true]) (by omega) fun q y hy _ L => by
    obtain ⟨hq,y',e,p3⟩ := hrow q _ hy
    cases e
    rw [aG hq]
    have hru := hrj.2 _ (List.getElem_mem hq)
    exact (aFa d v .nilM G.length (G.length + 1) q pol[j][q] y (aA k2) hRK.app (aA k3) (UnV.sub p3 aC.refl.app) hru.1 hru.2).vc (first := []) (capt := [_])
   rw [key] at hall
   refine aI hall.v ?_
   cases e3 : pol[j].all (dD d) with
   | false =>
    simp only [go_sem,k1,k1L,z1 K _ sK]
    exact fin K sK (hno (by rw [e3,Bool.and_false]))
   | true =>
    simp only [go_sem]
    exact ⟨(by unfold I64; omega),ih fun _ => ⟨hlen,e3⟩⟩
 refine aE aK aDL [1,2,6,8,37,38,39] L58_0.eq_1 ?_
 have i3 : ¬ (pol.length : Int) < pol.length := by omega
 have hPB : mB d pol = true := by
  have : pol.all (fun r => decide (r.length = aF d) && r.all (dD d)) = true := List.all_eq_true.2 fun r hr => by
   obtain ⟨i,hi,rfl⟩ := List.getElem_of_mem hr
   obtain ⟨a,b⟩ := es i hi hi
   rw [b,decide_eq_true a]; rfl
  rw [mB,this,decide_eq_true (by omega)]; rfl
 have ok := yR hPB
 have hW : lV d pol = iP d pol ∧ lW d pol = 0 := by rw [lV,lW,e1,hPB]; exact ⟨rfl,rfl⟩
 rw [hW.1,hW.2]
 simp only [go_sem,i3,lp]
 have hrow0 : ∀ (w : Nat) (hw : w < pol.length),pol[w].length = aF d := ok.row
 have hsl := dg.s1
 have hplen : pol.length = d.weathers.length := ok.len
 have hbad : ∀ (H : Heap) (x y z : Int),aC K H → goP d pol pol 0 (-1) 0 = .error (x,y,z) → aC h (H.set (h.length + 1) (some (Blk.row [.int .i64 x,.int .i64 y,.int .i64 z]))) ∧ AV.tup [.int .i64 0,.int .i64 0,.agg [.int .i64 x,.int .i64 y,.int .i64 z],.int .i64 0] = .tup (rC (iP d pol) ++ [.int .i64 0]) := fun H x y z s e => by
  refine ⟨(sG.trans (sK.trans s)).setR (by omega),?_⟩
  rw [iP,e]; rfl
 refine dM (S := Heap × Int × Int) (fun j st => [(1,pv),(2,.ptr (.own h.length 0)),(6,.ptr (.own (h.length + 1) 0)),(8,.ptr (.own (G.length + 1) 0)),(11,.int .i64 st.2.1),(12,.int .i64 st.2.2),(59,pv),(60,.int .i64 pol.length),(61,.int .i64 j)]) (fun _ st => st.1)
  (fun j st => aC K st.1 ∧ goP d pol pol 0 (-1) 0 = goP d pol (pol.drop j) j st.2.1 st.2.2) pol.length (K,-1,0) ⟨aC.refl,rfl⟩ rfl rfl (fun j st hj I ih => ?_) (fun st I => ?_)
 · refine aE aK aDI [1,2,6,8,11,12,59,60,61] L58_3.eq_1 ?_
   obtain ⟨H,b,bw⟩ := st
   obtain ⟨sH,hg⟩ := I
   simp only at sH hg ih ⊢
   rw [uY hj] at hg
   have i4 : (j : Int) < pol.length := by omega
   obtain ⟨p,x,i,t,t',sx'⟩ := (hPK.sub sH).row hj
   have lx := NS.len sx'
   have m3 := sH.2 _ _ k3
   have m3L : ∀ L,(H ++ L)[G.length + 1]? = some (some (.row [.ptr (.own G.length 0)])) := fun L => aA m3
   simp only [go_sem,i4,i,t,t',m3,m3L]
   refine aX (ACall.vc (first := []) (args := [_]) (aDj d v .nilM G.length (hD.sub sH) dg)) ?_
   rintro y H1 ⟨s1,nv,rfl,hst⟩
   obtain ⟨o1,o2,o3⟩ := ((hst [] (by simp)).sub cA).ones
   simp only [go_sem,stC,o1,o2,o3,lx]
   obtain ⟨M0,eM0⟩ : ∃ M0,M0 = H1 ++ [some (Blk.row [nv.pl,nv.le,nv.pe])] := ⟨_,rfl⟩
   have sM0 : aC H1 M0 := eM0 ▸ aC.refl.app
   have hrl := hrow0 j hj
   have hjw : j < d.weathers.length := by omega
   rw [← eM0]
   refine dM (S := Heap × aD × StV) (fun q st => [(1,pv),(2,.ptr (.own h.length 0)),(6,.ptr (.own (h.length + 1) 0)),(8,.ptr (.own (G.length + 1) 0)),(11,.int .i64 b),(12,.int .i64 bw),(13,.int .i64 j),(15,.ptr (.own H1.length 0)),(59,pv),(60,.int .i64 pol.length),(61,.int .i64 j),(68,x),(69,.int .i64 pol[j].length),(70,.int .i64 q)]) (fun _ st => st.1)
    (fun q st => aC H1 st.1 ∧ st.1[H1.length]? = some (some (.row (stC st.2.2))) ∧ StS w0 (msk [H1.length] st.1) st.2.1 st.2.2 ∧ StN d q st.2.1 ∧ goW d pol j pol[j] 0 (bC d) = goW d pol j (pol[j].drop q) q st.2.1) pol[j].length (M0,bC d,nv) ⟨sM0,by rw [eM0]; simp [stC],?_,qW dg,rfl⟩ rfl rfl (fun q st hq Iq iq => ?_) (fun st Iq => ?_)
   · exact (hst [] (by simp)).sub ((aC.toK (C := []) sM0).mskm (ms := []) (ns := [H1.length]) (by simp) fun c hc => .inr (by simp only [List.mem_singleton] at hc; omega))
   · refine aE aK aDJ [1,2,6,8,11,12,13,15,59,60,61,68,69,70] L58_2.eq_1 ?_
     obtain ⟨M,s,sv⟩ := st
     obtain ⟨sM,hk,hs,hn,hw⟩ := Iq
     simp only at sM hk hs hn hw iq ⊢
     rw [uW hq] at hw
     have i5 : (q : Int) < pol[j].length := by omega
     obtain ⟨p2,uv,i2,t2,t2',hU⟩ := xY (NS.mono sx' (s1.trans sM) fun _ _ ⟨y,e,u⟩ => ⟨y,e,u.sub (s1.trans sM)⟩) hq
     simp only [go_sem,i5,i2,t2,t2']
     have sKM := sH.trans (s1.trans sM)
     have hPM := hPK.sub sKM
     have hDM := hD.sub sKM
     have n0 := sKM.2 _ _ k0
     have n1 := sKM.2 _ _ k1
     have n3 := sKM.2 _ _ k3
     have n0L : ∀ L,(M ++ L)[h.length]? = some (some (.row [v.pl,v.ln,v.pn,v.pe,v.we])) := fun L => aA n0
     have n1L : ∀ L,(M ++ L)[h.length + 1]? = some (some (.row [.int .i64 0,.int .i64 0,.int .i64 0])) := fun L => aA n1
     have n3L : ∀ L,(M ++ L)[G.length + 1]? = some (some (.row [.ptr (.own G.length 0)])) := fun L => aA n3
     refine cJ (fun a => [(1,pv),(2,.ptr (.own h.length 0)),(6,.ptr (.own (h.length + 1) 0)),(8,.ptr (.own (G.length + 1) 0)),(11,.int .i64 b),(12,.int .i64 bw),(13,.int .i64 j),(15,.ptr (.own H1.length 0)),(16,.int .i64 q),(17,uv),(59,pv),(60,.int .i64 pol.length),(61,.int .i64 j),(68,x),(69,.int .i64 pol[j].length),(70,.int .i64 q),(75,.int .i64 j),(76,.int .i64 a)]) (fun a => (lB d a j q && !decide ((pol.getD a []).getD q [] = pol[j][q])) = false) j rfl (fun a ha _ ia => ?_) (fun hall => ?_)
     · refine aE aK aDK [1,2,6,8,11,12,13,15,16,17,59,60,61,68,69,70,75,76] L58_1.eq_1 ?_
       have i6 : (a : Int) < j := by omega
       have hap : a < pol.length := by omega
       have hal := hrow0 a hap
       obtain ⟨p3,x3,i3a,t3,t3',s3⟩ := hPM.row hap
       obtain ⟨p4,y4a,i4a,t4,t4',s4⟩ := xY s3 (show q < pol[a].length by omega)
       have wa : ∀ (w : Nat),w < d.weathers.length → (gE d w).length = aF d := fun w hw => by rw [nP hw]; exact (dg.rows _ (List.getElem_mem hw)).1
       have hua := (hr _ (List.getElem_mem hap)).2 _ (List.getElem_mem (show q < pol[a].length by omega))
       rw [aG hap,aG (show q < pol[a].length by omega)] at ia
       have hc1 := aK1 (h := M) d v .nilM G.length a j q (hR.sub (sG.trans (sK.trans sKM))).toDayS hDM.hd (by omega) hjw (by rw [wa a (by omega)]; omega) (by rw [wa j hjw]; omega) (by rw [wa a (by omega)]; omega)
       simp only [go_sem,i6,n3,n3L]
       refine aI hc1.v ?_
       cases c1 : lB d a j q with
       | false =>
        simp only [go_sem]
        exact ⟨(by unfold I64; omega),ia (by rw [c1]; rfl)⟩
       | true =>
       simp only [go_sem,i3a,t3,t3',i4a,t4,t4']
       have hc2 := aFA (h := M) pol[a][q] pol[j][q] y4a uv s4 hU hua.1 hua.2
       refine aI hc2.v ?_
       by_cases c2 : pol[a][q] = pol[j][q]
       · rw [decide_eq_true c2] at ia ⊢
         simp only [go_sem]
         exact ⟨(by unfold I64; omega),ia (by simp)⟩
       · rw [decide_eq_false c2] at ia ⊢
         simp only [go_sem,n1,n1L,z1 M _ (sK.trans sKM)]
         refine hbad M j q 8 sKM ?_
         have hcf : cfB d pol j q pol[j][q] = true := by
          rw [cfB,List.any_eq_true]
          refine ⟨a,List.mem_range.2 ha,?_⟩
          rw [aG hap,aG (show q < pol[a].length by omega),c1,decide_eq_false c2]; rfl
         rw [hcf,if_pos rfl] at hw
         rw [hg,hw]
     · refine aE aK aDK [1,2,6,8,11,12,13,15,16,17,59,60,61,68,69,70,75,76] L58_1.eq_1 ?_
       have i6 : ¬ (j : Int) < j := by omega
       have hcf : cfB d pol j q pol[j][q] = false := by
        rw [cfB,List.any_eq_false]
        intro a ha
        rw [hall a (List.mem_range.1 ha)]; simp
       rw [hcf,if_neg (by simp)] at hw
       simp only [go_sem,i6]
       obtain ⟨h2,ew,ew0,ew1⟩ := wAt_bd dg hjw (show q < aF d by omega)
       obtain ⟨pw,xw,iw,tw,sw⟩ := (hR.sub (sG.trans (sK.trans sKM))).toDayS.weathers.at_ hjw
       obtain ⟨po,io,ro,ro'⟩ := SlI.at_ sw h2
       obtain ⟨v1,v2,v3⟩ := (hs.sub cA).ones
       have hkL : ∀ L,(M ++ L)[H1.length]? = some (some (.row [sv.pl,sv.le,sv.pe])) := fun L => aA hk
       have hk' := hk
       simp only [stC] at hk'
       have tw' := tw []
       rw [List.append_nil] at tw'
       rw [← ew] at ro ro'
       refine aDf aK D58_0.eq_1 (by kernel_rfl) ?_
       simp only [go_sem,n3,n3L,hk',hkL,v1,v2,v3,n0,n0L,iw,tw,tw',io,ro,ro']
       have hub := tK (ok.un j hj q hq)
       refine aX (ACall.vc (first := []) (args := [_,_,_,_]) (fly_c d v .nilM G.length s sv (wAt d j q) pol[j][q] uv hDM (hs.sub cA) (hn.ok (by omega)) hU (hub.ok dg.pe) ew0 (by omega)).toA) ?_
       rintro y H2 ⟨s2,nw,rfl,hnw,how⟩
       have hst2 := qN (op := wAt d j q) hub.len (hub.fl dg.pe) hn
       obtain ⟨r,er⟩ : ∃ r,r = (cU d s (wAt d j q) pol[j][q]).2.1 := ⟨_,rfl⟩
       obtain ⟨pp,ep⟩ : ∃ p,p = (cU d s (wAt d j q) pol[j][q]).2.2 := ⟨_,rfl⟩
       obtain ⟨s',es'⟩ : ∃ s',s' = (cU d s (wAt d j q) pol[j][q]).1 := ⟨_,rfl⟩
       rw [← er,← es'] at hw
       rw [← es'] at hst2 how hnw
       rw [← er,← ep]
       obtain ⟨u1,u2,u3⟩ := hnw.ones
       obtain ⟨H3,eH3⟩ : ∃ H3,H3 = H2 ++ [some (Blk.row [nw.pl,nw.le,nw.pe]),some (Blk.row [.int .i64 r,.int .i64 pp])] := ⟨_,rfl⟩
       have s3 : aC H2 H3 := eH3 ▸ aC.refl.app
       have f1 : H3[H2.length]? = some (some (.row [nw.pl,nw.le,nw.pe])) := by rw [eH3]; simp
       have f2 : H3[H2.length + 1]? = some (some (.row [.int .i64 r,.int .i64 pp])) := by rw [eH3]; simp
       have f2L : ∀ L,(H3 ++ L)[H2.length + 1]? = some (some (.row [.int .i64 r,.int .i64 pp])) := fun L => aA f2
       have f3 := (s2.trans s3).2 _ _ hk'
       have f4 := (s2.trans s3).2 _ _ n1
       have f4L : ∀ L,(H3 ++ L)[h.length + 1]? = some (some (.row [.int .i64 0,.int .i64 0,.int .i64 0])) := fun L => aA f4
       simp only [go_sem,stC,u1,u2,u3]
       rw [← eH3]
       have lM := aL hk
       have l2 := s2.1
       have sK3 := sKM.trans (s2.trans s3)
       simp only [go_sem,f2,f2L,f4,f4L,z1 H3 _ (sK.trans sK3)]
       refine ⟨fun e => hbad H3 j q r sK3 (by rw [hg,hw,if_pos e]),fun e => ?_⟩
       rw [if_neg (fun x => x e)] at hw
       simp only [go_sem,f3]
       have hmk : aC (msk [H1.length] M) (msk [H1.length] H3) := wY (s2.trans s3)
       have hso : StS w0 (msk [H1.length] H3) s' nw := by
        rcases how with ⟨h1,h2⟩ | ho
        · rw [h1,h2]; exact hs.sub hmk
        · exact (ho.st (C := [H1.length]) fun i hi => by simp only [List.mem_singleton] at hi; omega).sub (wY s3)
       have := iq (H3.set H1.length (some (.row (stC nw))),s',nw) ⟨(sM.trans (s2.trans s3)).setR (Nat.le_refl _),by simp only; exact List.getElem?_set_self (aL f3),by simp only; rw [tP (by simp)]; exact hso,hst2,hw⟩
       exact ⟨(by unfold I64; omega),by simpa [stC] using this⟩
   · refine aE aK aDJ [1,2,6,8,11,12,13,15,59,60,61,68,69,70] L58_2.eq_1 ?_
     obtain ⟨M,s,sv⟩ := st
     obtain ⟨sM,hk,hs,hn,hw⟩ := Iq
     simp only at sM hk hs hn hw ⊢
     rw [List.drop_length,goW] at hw
     rw [hw] at hg
     have i5 : ¬ (pol[j].length : Int) < pol[j].length := by omega
     have sKM := sH.trans (s1.trans sM)
     have hDM := hD.sub sKM
     have n3 := sKM.2 _ _ k3
     have n3L : ∀ L,(M ++ L)[G.length + 1]? = some (some (.row [.ptr (.own G.length 0)])) := fun L => aA n3
     obtain ⟨v1,v2,v3⟩ := (hs.sub cA).ones
     simp only [stC] at hk
     have hkL : ∀ L,(M ++ L)[H1.length]? = some (some (.row [sv.pl,sv.le,sv.pe])) := fun L => aA hk
     simp only [go_sem,i5,n3,n3L,hk,hkL,v1,v2,v3]
     refine aI (aG6 d v .nilM G.length s sv hDM (hs.sub cA) (hn.ok (by omega)) (vP dg s) (rO dg s) hn.pat).v ?_
     simp only [go_sem]
     refine ⟨fun e => ⟨(by unfold I64; omega),?_⟩,fun e => ⟨(by unfold I64; omega),?_⟩⟩
     · simp only [if_pos e] at hg
       have := ih (M,iY d s,j) ⟨sKM,hg⟩
       simpa using this
     · simp only [if_neg e] at hg
       have := ih (M,b,bw) ⟨sKM,hg⟩
       simpa using this
 refine aE aK aDI [1,2,6,8,11,12,59,60,61] L58_3.eq_1 ?_
 obtain ⟨H,b,bw⟩ := st
 obtain ⟨sH,hg⟩ := I
 simp only at sH hg ⊢
 rw [List.drop_length,goP] at hg
 have m1 := sH.2 _ _ k1
 have m1L : ∀ L,(H ++ L)[h.length + 1]? = some (some (.row [.int .i64 0,.int .i64 0,.int .i64 0])) := fun L => aA m1
 simp only [go_sem,i3,m1,m1L,z1 H _ (sK.trans sH)]
 refine ⟨(sG.trans (sK.trans sH)).setR (by omega),?_⟩
 rw [iP,hg]; rfl
end Go.Proofs.Ab
namespace Go.Proofs.Ab
open Go Go.Proofs
variable {w0 : World} {h : Heap}
attribute [local irreducible] ACall aS aZ aN aQ rvC rdC lp rg dr ex un rv rd'
end Go.Proofs.Ab
namespace Go.Proofs.Ab
open Go Go.Proofs
variable {w0 : World} {h : Heap}
attribute [local irreducible] ACall aS aZ aN aQ rvC rdC lp rg dr ex un rv rd'
end Go.Proofs.Ab
namespace Go.Proofs.Ab
open Go Go.Proofs
variable {w : World} {h : Heap}
def aAx : Rw := .sl (.sl aE9 .nil) .nil
theorem aE8 {v : Value} (g : nY w aE9 v) : ∃ l : List (List aB),NS w h 1 (aEY w h) (inj v) l ∧ l.length ≤ 9223372036854775807 ∧ ∀ u ∈ l,u.length ≤ 9223372036854775807 := by
 obtain ⟨rows,h1,h2,h3⟩ := pQ (h := h) g
 obtain ⟨l,rfl,hl⟩ := lL (f := fun x : AV × List aB => [x.1]) (p := fun x => UnV w h x.1 x.2 ∧ x.2.length ≤ 9223372036854775807) (rows := rows) fun c hc => by
  obtain ⟨cs,rfl,u,_,rfl,g2,rfl⟩ := h3 c hc
  obtain ⟨q,hq⟩ := aD8 (h := h) g2
  exact ⟨(inj u,q),rfl,hq⟩
 refine ⟨l.map Prod.snd,⟨_,by simp,h1,fun j x c hx hc => ?_⟩,by simpa using h2,fun u hu => ?_⟩
 · simp only [List.getElem?_map,Option.map_eq_some_iff] at hx hc
   obtain ⟨a,a1,rfl⟩ := hx
   obtain ⟨b,b1,rfl⟩ := hc
   rw [a1] at b1; cases b1
   exact ⟨a.1,rfl,(hl _ (List.mem_of_getElem? a1)).1⟩
 · obtain ⟨a,ha,rfl⟩ := List.mem_map.1 hu
   exact (hl a ha).2
theorem aEl {v : Value} (g : Gd w aAx [v]) : ∃ p : dA,pF w h (inj v) p ∧ p.length ≤ 9223372036854775807 ∧ ∀ r ∈ p,r.length ≤ 9223372036854775807 ∧ ∀ u ∈ r,u.length ≤ 9223372036854775807 := by
 obtain ⟨_,_,e,g,rfl⟩ := g
 cases e
 obtain ⟨rows,h1,h2,h3⟩ := pQ (h := h) g
 obtain ⟨l,rfl,hl⟩ := lL (f := fun x : AV × List (List aB) => [x.1]) (p := fun x => NS w h 1 (aEY w h) x.1 x.2 ∧ x.2.length ≤ 9223372036854775807 ∧ ∀ u ∈ x.2,u.length ≤ 9223372036854775807) (rows := rows) fun c hc => by
  obtain ⟨cs,rfl,u,_,rfl,g2,rfl⟩ := h3 c hc
  obtain ⟨q,hq⟩ := aE8 (h := h) g2
  exact ⟨(inj u,q),rfl,hq⟩
 refine ⟨l.map Prod.snd,⟨_,by simp,h1,fun j x c hx hc => ?_⟩,by simpa using h2,fun u hu => ?_⟩
 · simp only [List.getElem?_map,Option.map_eq_some_iff] at hx hc
   obtain ⟨a,a1,rfl⟩ := hx
   obtain ⟨b,b1,rfl⟩ := hc
   rw [a1] at b1; cases b1
   exact ⟨a.1,rfl,(hl _ (List.mem_of_getElem? a1)).1⟩
 · obtain ⟨a,ha,rfl⟩ := List.mem_map.1 hu
   exact (hl a ha).2
end Go.Proofs.Ab
namespace Go.Proofs.Ab
open Go Go.Proofs
section
variable {d : aO} {ws slot : Nat}
theorem bit_xa {a g i : Nat} : aV (a ^^^ (a &&& g)) i = (aV a i && !aV g i) := by
 rw [dF,dF,dF,Nat.testBit_xor,Nat.testBit_and]
 cases a.testBit i <;> cases g.testBit i <;> rfl
theorem qJ : ∀ n,n ≤ d.weathers.length → (∀ i,i < d.weathers.length → (aV (cH d ws slot n).1 i = true ↔ aV ws i = true ∧ ∀ w,w < n → aV ws w = true → wAt d i slot ≠ wAt d w slot)) ∧
 (∀ g ∈ (cH d ws slot n).2,∃ w,w < n ∧ aV ws w = true ∧ ∀ i,aV g i = true ↔ i < d.weathers.length ∧ aV ws i = true ∧ wAt d i slot = wAt d w slot) ∧
 (∀ w,w < n → aV ws w = true → ∃ g ∈ (cH d ws slot n).2,aV g w = true) ∧
 (cH d ws slot n).2.Pairwise fun g g' => ∀ i,¬ (aV g i = true ∧ aV g' i = true)
 | 0,_ => ⟨fun i _ => by simp [cH],fun g hg => by simp [cH] at hg,fun w hw => by omega,by simp [cH]⟩
 | n + 1,hn => by
  obtain ⟨h1,h2,h3,h4⟩ := qJ n (by omega)
  obtain ⟨l,el⟩ : ∃ l,l = (cH d ws slot n).1 := ⟨_,rfl⟩
  obtain ⟨gs,egs⟩ : ∃ gs,gs = (cH d ws slot n).2 := ⟨_,rfl⟩
  rw [← el] at h1
  rw [← egs] at h2 h3 h4
  rw [cH]
  simp only [← el,← egs]
  have hbit : ∀ i,aV (fG d l slot n d.weathers.length) i = true ↔ i < d.weathers.length ∧ aV l i = true ∧ wAt d i slot = wAt d n slot := fun i => by
   rw [oW]; simp [and_assoc]
  cases hb : aV l n with
  | false =>
   rw [if_neg (by simp),← el,← egs]
   have hn0 : ¬ (aV ws n = true ∧ ∀ w,w < n → aV ws w = true → wAt d n slot ≠ wAt d w slot) := fun e => by
    have := (h1 n (by omega)).2 e; rw [hb] at this; cases this
   refine ⟨fun i hi => ?_,fun g hg => ?_,fun w hw hb2 => ?_,h4⟩
   · rw [h1 i hi]
     refine ⟨fun ⟨a,b⟩ => ⟨a,fun w hw hb2 => ?_⟩,fun ⟨a,b⟩ => ⟨a,fun w hw => b w (by omega)⟩⟩
     rcases Nat.lt_or_ge w n with h | h
     · exact b w h hb2
     · obtain rfl : w = n := by omega
       intro e
       refine hn0 ⟨hb2,fun w' hw' hb3 => ?_⟩
       rw [← e]; exact b w' hw' hb3
   · obtain ⟨w,a,b⟩ := h2 g hg
     exact ⟨w,by omega,b⟩
   · rcases Nat.lt_or_ge w n with h | h
     · exact h3 w h hb2
     · obtain rfl : w = n := by omega
       have : ∃ w',w' < w ∧ aV ws w' = true ∧ wAt d w slot = wAt d w' slot := by
        refine Classical.byContradiction fun hc => hn0 ⟨hb2,fun w' hw' hb3 e => hc ⟨w',hw',hb3,e⟩⟩
       obtain ⟨w',a,b,c⟩ := this
       obtain ⟨g,hg,hgw⟩ := h3 w' a b
       obtain ⟨v,_,_,hv⟩ := h2 g hg
       refine ⟨g,hg,(hv w).2 ⟨by omega,hb2,?_⟩⟩
       rw [c]; exact ((hv w').1 hgw).2.2
  | true =>
   rw [if_pos rfl]
   have hn1 := (h1 n (by omega)).1 hb
   have key : ∀ i,i < d.weathers.length → aV ws i = true → wAt d i slot = wAt d n slot → aV l i = true := fun i hi hb2 e => (h1 i hi).2 ⟨hb2,fun w hw hb3 => by rw [e]; exact hn1.2 w hw hb3⟩
   refine ⟨fun i hi => ?_,fun g hg => ?_,fun w hw hb2 => ?_,?_⟩
   · rw [bit_xa,Bool.and_eq_true,Bool.not_eq_true',Bool.eq_false_iff,ne_eq,hbit,h1 i hi]
     refine ⟨fun ⟨⟨a,b⟩,c⟩ => ⟨a,fun w hw hb2 => ?_⟩,fun ⟨a,b⟩ => ⟨⟨a,fun w hw => b w (by omega)⟩,fun c => b n (by omega) hn1.1 c.2.2⟩⟩
     rcases Nat.lt_or_ge w n with h | h
     · exact b w h hb2
     · obtain rfl : w = n := by omega
       exact fun e => c ⟨hi,⟨a,b⟩,e⟩
   · rcases List.mem_append.1 hg with hg | hg
     · obtain ⟨w,a,b⟩ := h2 g hg
       exact ⟨w,by omega,b⟩
     · simp only [List.mem_singleton] at hg
       subst hg
       refine ⟨n,by omega,hn1.1,fun i => ?_⟩
       rw [hbit]
       exact ⟨fun ⟨a,b,c⟩ => ⟨a,((h1 i a).1 b).1,c⟩,fun ⟨a,b,c⟩ => ⟨a,key i a b c,c⟩⟩
   · rcases Nat.lt_or_ge w n with h | h
     · obtain ⟨g,hg,hgw⟩ := h3 w h hb2
       exact ⟨g,List.mem_append.2 (.inl hg),hgw⟩
     · obtain rfl : w = n := by omega
       exact ⟨_,List.mem_append.2 (.inr (by simp)),(hbit w).2 ⟨by omega,hb,rfl⟩⟩
   · rw [List.pairwise_append]
     refine ⟨h4,by simp,fun g hg g' hg' i hi => ?_⟩
     simp only [List.mem_singleton] at hg'
     subst hg'
     obtain ⟨w,a,b,hv⟩ := h2 g hg
     obtain ⟨hi1,hi2⟩ := hi
     obtain ⟨c1,c2,c3⟩ := (hbit i).1 hi2
     exact ((h1 i c1).1 c2).2 w a b ((hv i).1 hi1).2.2
theorem cP : (∀ g ∈ bT d ws slot,∃ w,w < d.weathers.length ∧ aV ws w = true ∧ ∀ i,aV g i = true ↔ i < d.weathers.length ∧ aV ws i = true ∧ wAt d i slot = wAt d w slot) ∧
 (∀ w,w < d.weathers.length → aV ws w = true → ∃ g ∈ bT d ws slot,aV g w = true) ∧
 (bT d ws slot).Pairwise fun g g' => ∀ i,¬ (aV g i = true ∧ aV g' i = true) := (qJ d.weathers.length (Nat.le_refl _)).2
theorem aBk {g : Nat} {u : List aB} {pol : dA} {w : Nat} (hw : w < pol.length) : ∀ n,(kI g u pol n).getD w [] = pol.getD w [] ++ (if decide (w < n) && aV g w then [u] else [])
 | 0 => by simp [kI]
 | n + 1 => by
  have ih := aBk (g := g) (u := u) hw n
  have hl := vQ (g := g) (u := u) (pol := pol) n
  rw [kI]
  by_cases e : w = n
  · subst e
    have h1 : decide (w < w) = false := decide_eq_false (by omega)
    have h2 : decide (w < w + 1) = true := decide_eq_true (by omega)
    rw [h1,Bool.false_and,if_neg (by simp),List.append_nil] at ih
    rw [h2,Bool.true_and]
    split
    · rw [List.getD_eq_getElem?_getD,List.getElem?_set_self (by rw [hl]; exact hw),Option.getD_some,ih]
    · rw [ih,List.append_nil]
  · have h1 : decide (w < n + 1) = decide (w < n) := by rw [decide_eq_decide]; omega
    rw [h1,← ih]
    split
    · rw [List.getD_eq_getElem?_getD,List.getElem?_set_ne (by omega),← List.getD_eq_getElem?_getD]
    · rfl
end
def fQ (d : aO) : Nat → Nat → aD → Nat → List (List aB)
 | 0,_,_,_ => []
 | k + 1,ws,s,w => match (bT d ws (aF d - (k + 1))).find? fun g => aV g w with
  | none => []
  | some g => match (cN d s (wAt d (dI g d.weathers.length) (aF d - (k + 1)))).find? (lP d k (aF d - (k + 1)) g s) with
   | none => []
   | some x => x.1 :: fQ d k g x.2 w
theorem aFM {d : aO} {w : Nat} : ∀ (k ws : Nat) (s : aD),aV ws w = false → fQ d k ws s w = []
 | 0,_,_,_ => rfl
 | k + 1,ws,s,hb => by
  have : (bT d ws (aF d - (k + 1))).find? (fun g => aV g w) = none := by
   rw [List.find?_eq_none]
   intro g hg hbg
   obtain ⟨v,_,_,hv⟩ := cP.1 g hg
   have := ((hv w).1 hbg).2.1
   rw [hb] at this; cases this
  rw [fQ,this]
theorem aAV {W w : Nat} {step : dA → Nat → dA} {F : Nat → List (List aB)} (hw : w < W) (hs : ∀ p g,p.length = W → (step p g).length = W ∧ (step p g).getD w [] = p.getD w [] ++ (if aV g w = true then F g else [])) : ∀ (gs : List Nat) (p : dA),p.length = W → gs.Pairwise (fun g g' => ∀ i,¬ (aV g i = true ∧ aV g' i = true)) →
 (gs.foldl step p).length = W ∧ (gs.foldl step p).getD w [] = p.getD w [] ++ (match gs.find? (fun g => aV g w) with | none => [] | some g => F g)
 | [],p,hp,_ => ⟨hp,by simp⟩
 | g :: gs,p,hp,hd => by
  obtain ⟨d1,d2⟩ := List.pairwise_cons.1 hd
  obtain ⟨s1,s2⟩ := hs p g hp
  obtain ⟨i1,i2⟩ := aAV hw hs gs (step p g) s1 d2
  rw [List.foldl_cons]
  refine ⟨i1,?_⟩
  rw [i2,s2]
  cases hb : aV g w with
  | true =>
   have : gs.find? (fun g => aV g w) = none := by
    rw [List.find?_eq_none]
    intro g' hg' hb'
    exact d1 g' hg' w ⟨hb,hb'⟩
   rw [this,List.find?_cons,hb]
   simp
  | false =>
   rw [List.find?_cons,hb]
   simp
theorem xO {d : aO} : ∀ (k ws : Nat) (s : aD) (pol : dA),pol.length = d.weathers.length → (gM d k ws s pol).length = pol.length ∧ ∀ w,w < pol.length → (gM d k ws s pol).getD w [] = pol.getD w [] ++ fQ d k ws s w
 | 0,ws,s,pol,_ => ⟨rfl,fun w _ => by simp [gM,fQ]⟩
 | k + 1,ws,s,pol,hp => by
  obtain ⟨_,_,h3⟩ := cP (d := d) (ws := ws) (slot := aF d - (k + 1))
  rw [sF]
  have step : ∀ (g : Nat) (p : dA),p.length = d.weathers.length → (gY d k (aF d - (k + 1)) s p g).length = p.length ∧ ∀ w,w < p.length → (gY d k (aF d - (k + 1)) s p g).getD w [] = p.getD w [] ++ (if aV g w = true then (match (cN d s (wAt d (dI g d.weathers.length) (aF d - (k + 1)))).find? (lP d k (aF d - (k + 1)) g s) with
   | none => []
   | some x => x.1 :: fQ d k g x.2 w) else []) := fun g p hpl => by
   rw [gY]
   cases (cN d s (wAt d (dI g d.weathers.length) (aF d - (k + 1)))).find? (lP d k (aF d - (k + 1)) g s) with
   | none => exact ⟨rfl,fun w _ => by simp [pW]⟩
   | some x =>
    have hal := vQ (g := g) (u := x.1) (pol := p) d.weathers.length
    obtain ⟨b1,b2⟩ := xO k g x.2 (kI g x.1 p d.weathers.length) (by rw [hal,hpl])
    refine ⟨by simp only [pW]; rw [b1,hal],fun w hw => ?_⟩
    simp only [pW]
    rw [b2 w (by rw [hal]; exact hw),aBk hw,decide_eq_true (show w < d.weathers.length by omega),Bool.true_and]
    cases hb : aV g w with
    | true => simp
    | false => rw [aFM k g x.2 hb]; simp
  have hl : ∀ (gs : List Nat) (p : dA),p.length = d.weathers.length → (gs.foldl (gY d k (aF d - (k + 1)) s) p).length = p.length := fun gs => by
   induction gs with
   | nil => intro p _; rfl
   | cons g gs ih => intro p hpl; rw [List.foldl_cons,ih _ (by rw [(step g p hpl).1,hpl]),(step g p hpl).1]
  refine ⟨hl _ pol hp,fun w hw => ?_⟩
  obtain ⟨_,i2⟩ := aAV (W := d.weathers.length) (w := w) (step := gY d k (aF d - (k + 1)) s) (F := fun g => match (cN d s (wAt d (dI g d.weathers.length) (aF d - (k + 1)))).find? (lP d k (aF d - (k + 1)) g s) with
   | none => []
   | some x => x.1 :: fQ d k g x.2 w) (by omega) (fun p g hpl => by
   obtain ⟨a,b⟩ := step g p hpl
   exact ⟨a.trans hpl,b w (by omega)⟩) (bT d ws (aF d - (k + 1))) pol hp h3
  rw [i2,fQ]
end Go.Proofs.Ab
namespace Go.Proofs.Ab
open Go Go.Proofs
section
variable {d : aO}
def NC (d : aO) (s : aD) : Prop := (List.range d.places.length).any (eY d s) = false
theorem aFC {s : aD} {op : Int} {i : Nat} {x : aB} {g g' : List Bool} {r : Int} (h : kQ d s op i x g = (some r,g')) : r ≠ 1 := by
 simp only [kQ] at h
 split at h
 · cases h; omega
 · split at h
   · cases h; omega
   · split at h
     · cases h; omega
     · split at h
       · cases h; omega
       · split at h
         · cases h; omega
         · cases h
theorem zH {s : aD} {op : Int} : ∀ (u : List aB) (i : Nat) (n : aD) (g : List Bool) (r p : Int),lD d s op u i n g = .error (r,p) → r ≠ 1
 | [],i,n,g,r,p,h => by cases h
 | x :: u,i,n,g,r,p,h => by
  rw [lD] at h
  split at h
  · exact zH u _ n g r p h
  · split at h
    · rename_i r' g' e
      cases h
      exact aFC e
    · exact zH u _ _ _ r p h
theorem aAW {s : aD} {op : Int} {u : List aB} (h : (cU d s op u).2.1 = 1) : (cU d s op u).2.2 = -1 ∧ NC d (cU d s op u).1 := by
 rw [cU] at h ⊢
 cases e : lD d s op u 0 s [false,false,false,false] with
 | error p =>
  rw [e] at h
  exact absurd h (zH _ _ _ _ _ _ e)
 | ok n =>
  rw [e] at h
  simp only at h ⊢
  cases e2 : (List.range d.places.length).any (eY d n) with
  | true => rw [e2,if_pos rfl] at h; simp at h
  | false => rw [if_neg (by simp)]; exact ⟨rfl,e2⟩
theorem xE {s : aD} {op : Int} : ∀ (u : List aB) (i : Nat) (n : aD) (g : List Bool),(∀ x ∈ u,x.to < 0) → lD d s op u i n g = .ok n
 | [],_,_,_,_ => rfl
 | x :: u,i,n,g,h => by
  rw [lD,if_pos (h x (by simp))]
  exact xE u _ n g fun y hy => h y (by simp [hy])
theorem rD {s : aD} {op : Int} (hc : NC d s) : ∀ (k gone : Nat) (u : List aB),(∀ x ∈ u,x.to < 0) → dP d s op k gone u ≠ []
 | 0,gone,u,hu => by
  rw [dP,cU,xE u _ _ _ hu]
  simp only
  rw [hc]
  simp
 | k + 1,gone,u,hu => by
  rw [dP,fB,List.flatMap_cons]
  intro e
  exact rD hc k gone (u ++ [⟨-1,[]⟩]) (fun x hx => by
   rcases List.mem_append.1 hx with h | h
   · exact hu x h
   · simp only [List.mem_singleton] at h; subst h; decide) (List.append_eq_nil_iff.1 e).1
theorem rM {next : aD → Int} : ∀ (l : List (List aB × aD)) (b : Int),(l.foldl (kZ next) b = b ∧ 0 ≤ b) ∨ (∃ x ∈ l,next x.2 = l.foldl (kZ next) b) ∨ l = []
 | [],b => .inr (.inr rfl)
 | x :: l,b => by
  rw [List.foldl_cons]
  have hm : kZ next b x = next x.2 ∨ (kZ next b x = b ∧ 0 ≤ b) := by
   rw [kZ]
   split
   · exact .inl rfl
   · rename_i h
     refine .inr ⟨rfl,?_⟩
     simp only [Bool.or_eq_true,decide_eq_true_eq,not_or] at h
     omega
  rcases rM (next := next) l (kZ next b x) with ⟨h1,h2⟩ | ⟨y,hy,h⟩ | h
  · rw [h1]
    rcases hm with e | ⟨e,e2⟩
    · exact .inr (.inl ⟨x,by simp,e.symm⟩)
    · exact .inl ⟨e,e2⟩
  · exact .inr (.inl ⟨y,by simp [hy],h⟩)
  · subst h
    rcases hm with e | ⟨e,e2⟩
    · exact .inr (.inl ⟨x,by simp,e.symm⟩)
    · exact .inl ⟨e,e2⟩
theorem qM {f : Nat → Int} : ∀ (l : List Nat) (b : Int),b ≤ l.foldl (fun m g => max m (f g)) b ∧ ∀ g ∈ l,f g ≤ l.foldl (fun m g => max m (f g)) b
 | [],b => ⟨Int.le_refl _,fun g hg => by cases hg⟩
 | x :: l,b => by
  obtain ⟨h1,h2⟩ := qM (f := f) l (max b (f x))
  rw [List.foldl_cons]
  refine ⟨by omega,fun g hg => ?_⟩
  rcases List.mem_cons.1 hg with h | h
  · subst h; omega
  · exact h2 g h
theorem cost0 (dg : fD d) (s : aD) : 0 ≤ iY d s := by
 have h1 := (nQ (by omega) (vP dg s) d.planes.length).1
 have h2 := (nQ (by omega) (rO dg s) d.people.length).1
 rw [iY]; omega
theorem tT (dg : fD d) : ∀ (k ws : Nat) (s : aD),0 ≤ aW d k ws s
 | 0,_,s => cost0 dg s
 | k + 1,ws,s => (qM _ _).1
theorem vF {α : Type} {p q : α → Bool} : ∀ {l : List α},(∀ x ∈ l,p x = q x) → l.find? p = l.find? q
 | [],_ => rfl
 | x :: l,h => by rw [List.find?_cons,List.find?_cons,h x (by simp),vF fun y hy => h y (by simp [hy])]
theorem aEn (dg : fD d) {k ws w t : Nat} {s : aD} (hk : t + (k + 1) = aF d) (hw : w < d.weathers.length) (hb : aV ws w = true) (hc : NC d s) :
 ∃ (g : Nat) (x : List aB × aD),fQ d (k + 1) ws s w = x.1 :: fQ d k g x.2 w ∧ aV g w = true ∧ x ∈ cN d s (wAt d w t) ∧ aW d k g x.2 ≤ aW d (k + 1) ws s := by
 have ht : aF d - (k + 1) = t := by omega
 obtain ⟨g0,hg0,hb0⟩ := (cP (d := d) (ws := ws) (slot := aF d - (k + 1))).2.1 w hw hb
 obtain ⟨g,eg⟩ : ∃ g,(bT d ws (aF d - (k + 1))).find? (fun g => aV g w) = some g := by
  cases e : (bT d ws (aF d - (k + 1))).find? (fun g => aV g w) with
  | some g => exact ⟨g,rfl⟩
  | none => exact absurd hb0 (List.find?_eq_none.1 e g0 hg0)
 have hgb : aV g w = true := List.find?_some (p := fun g => aV g w) eg
 have hgm := List.mem_of_find?_eq_some eg
 obtain ⟨v,_,_,hv⟩ := cP.1 g hgm
 have hf := (gW d.weathers.length g ⟨w,hw,hgb⟩).1
 have hwa : wAt d (dI g d.weathers.length) (aF d - (k + 1)) = wAt d w t := by
  have h1 := ((hv _).1 hf).2.2
  have h2 := ((hv w).1 hgb).2.2
  rw [h1,← h2,ht]
 have hle : dE d k (aF d - (k + 1)) g s ≤ aW d (k + 1) ws s := (qM (f := fun g => fR d (aW d k) (aF d - (k + 1)) g s) (bT d ws (aF d - (k + 1))) 0).2 g hgm
 have hex : ∃ x ∈ cN d s (wAt d w t),aW d k g x.2 = dE d k (aF d - (k + 1)) g s := by
  rw [dE,fR,hwa]
  rcases rM (next := aW d k g) (cN d s (wAt d w t)) (-1) with ⟨_,h⟩ | h | h
  · omega
  · exact h
  · exact absurd h (rD hc _ _ _ (by simp))
 obtain ⟨y,hy,ey⟩ := hex
 obtain ⟨x,ex'⟩ : ∃ x,(cN d s (wAt d w t)).find? (lP d k (aF d - (k + 1)) g s) = some x := by
  cases e : (cN d s (wAt d w t)).find? (lP d k (aF d - (k + 1)) g s) with
  | some x => exact ⟨x,rfl⟩
  | none => exact absurd (by rw [lP,ey]; simp) (List.find?_eq_none.1 e y hy)
 have hh : lP d k (aF d - (k + 1)) g s x = true := List.find?_some ex'
 simp only [lP,Bool.not_eq_true',decide_eq_false_iff_not] at hh
 refine ⟨g,x,?_,hgb,List.mem_of_find?_eq_some ex',by omega⟩
 rw [fQ,eg]
 simp only
 rw [hwa,ex']
theorem uI : ∀ (k ws : Nat) (s : aD) (i w w' : Nat),k ≤ aF d → w < d.weathers.length → w' < d.weathers.length → aV ws w = true → aV ws w' = true → (∀ j,j ≤ i → wAt d w (aF d - k + j) = wAt d w' (aF d - k + j)) →
 (fQ d k ws s w).getD i [] = (fQ d k ws s w').getD i []
 | 0,_,_,_,_,_,_,_,_,_,_,_ => rfl
 | k + 1,ws,s,i,w,w',hk,hw,hw',hb,hb',h => by
  have hfe : (bT d ws (aF d - (k + 1))).find? (fun g => aV g w) = (bT d ws (aF d - (k + 1))).find? (fun g => aV g w') := vF fun g hg => by
   obtain ⟨v,_,_,hv⟩ := cP.1 g hg
   have h0 := h 0 (by omega)
   rw [Nat.add_zero] at h0
   rw [Bool.eq_iff_iff,hv,hv,h0]
   simp [hw,hw',hb,hb']
  rw [fQ,fQ,hfe]
  cases eg : (bT d ws (aF d - (k + 1))).find? (fun g => aV g w') with
  | none => rfl
  | some g =>
   have hgb' : aV g w' = true := List.find?_some (p := fun g => aV g w') eg
   have hgb : aV g w = true := by rw [← hfe] at eg; exact List.find?_some (p := fun g => aV g w) eg
   simp only
   cases (cN d s (wAt d (dI g d.weathers.length) (aF d - (k + 1)))).find? (lP d k (aF d - (k + 1)) g s) with
   | none => rfl
   | some x =>
    rcases i with _ | i
    · rfl
    · simp only [List.getD_cons_succ]
      refine uI k g x.2 i w w' (by omega) hw hw' hgb hgb' fun j hj => ?_
      have := h (j + 1) (by omega)
      rw [show aF d - (k + 1) + (j + 1) = aF d - k + j by omega] at this
      exact this
end
end Go.Proofs.Ab

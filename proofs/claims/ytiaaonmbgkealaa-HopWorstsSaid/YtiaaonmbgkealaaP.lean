/- The own layer under the proofs of this seat, part P: what calls of the program come to on an abstract heap. No condition. -/
import Derived.Test.YtiaaonmbgkealaaO
set_option linter.unusedSimpArgs false
set_option linter.unusedVariables false
namespace Go.Proofs.Ab
open Go Go.Proofs
variable {w0 : World} {h : Heap}
def cfB (d : aN) (pol : dJ) (w t : Nat) (u : List aE) : Bool := (List.range w).any fun v => kL d v w t && !decide ((pol.getD v []).getD t [] = u)
def goW (d : aN) (pol : dJ) (w : Nat) : List (List aE) → Nat → aJ → Except (Int × Int × Int) aJ
 | [],_,s => .ok s
 | u :: r,t,s => if cfB d pol w t u then .error (w,t,8) else if (dU d s (wAt d w t) u).2.1 ≠ 1 then .error (w,t,(dU d s (wAt d w t) u).2.1) else goW d pol w r (t + 1) (dU d s (wAt d w t) u).1
def goP (d : aN) (pol : dJ) : dJ → Nat → Int → Int → Except (Int × Int × Int) (Int × Int)
 | [],_,b,bw => .ok (b,bw)
 | p :: r,w,b,bw => match goW d pol w p 0 (bQ d) with
  | .error e => .error e
  | .ok s => if b < qK d s then goP d pol r (w + 1) (qK d s) w else goP d pol r (w + 1) b bw
def lH (d : aN) (pol : dJ) : Int × Int × Int × Int × Int := match goP d pol pol 0 (-1) 0 with
 | .error e => (0,0,e)
 | .ok (b,w) => (b,w,0,0,1)
def lF (d : aN) (pol : dJ) : Int × Int × Int × Int × Int := if (eZ d && oM d pol) = true then lH d pol else (0,0,0,0,0)
def lG (d : aN) (pol : dJ) : Int := if (eZ d && oM d pol) = true then 0 else 2
def oG (r : Int × Int × Int × Int × Int) : List AV := [.int .i64 r.1,.int .i64 r.2.1,.agg [.int .i64 r.2.2.1,.int .i64 r.2.2.2.1,.int .i64 r.2.2.2.2]]
structure PolOK (d : aN) (pol : dJ) : Prop where
 len : pol.length = d.weathers.length
 row : ∀ (w : Nat) (hw : w < pol.length),pol[w].length = aX d
 un : ∀ (w : Nat) (hw : w < pol.length) (t : Nat) (ht : t < pol[w].length),dK d pol[w][t] = true
theorem aBY {d : aN} {pol : dJ} (e : oM d pol = true) : PolOK d pol := by
 simp only [oM,Bool.and_eq_true,decide_eq_true_eq,List.all_eq_true] at e
 exact ⟨e.2,fun w hw => (e.1 _ (List.getElem_mem hw)).1,fun w hw t ht => (e.1 _ (List.getElem_mem hw)).2 _ (List.getElem_mem ht)⟩
theorem qQ.fl {d : aN} {u : List aE} (a : qQ d u) (h4 : d.people.length ≤ 4) : ∀ x ∈ u,rU d x := fun x hx => by
 have k := a.ok h4
 obtain ⟨h1,h2⟩ := a.pp x hx
 refine ⟨(a.to x hx).1,(a.to x hx).2,h1,?_⟩
 have key : ∀ (l : List Int) (b : Int),l.Pairwise (· < ·) → (∀ n ∈ l,b ≤ n ∧ n < d.people.length) → (l.length : Int) ≤ d.people.length - b ∨ l = [] := by
  intro l
  induction l with
  | nil => intro b _ _; exact .inr rfl
  | cons a l ih =>
   intro b hp hb
   obtain ⟨p1,p2⟩ := List.pairwise_cons.1 hp
   have hab := hb a (by simp)
   rcases ih (a + 1) p2 (fun n hn => ⟨by have := p1 n hn; omega,(hb n (by simp [hn])).2⟩) with h | h
   · left; simp; omega
   · subst h; left; simp; omega
 rcases key x.people 0 h2 (fun n hn => h1 n hn) with h | h
 · omega
 · rw [h]; simp
theorem aAx {d : aN} (dg : iJ d) : StN d 0 (bQ d) := ⟨by simp [bQ],by simp [bQ],by simp [bQ],fun x hx => by
 simp only [bQ,List.mem_map] at hx
 obtain ⟨p,hp,rfl⟩ := hx
 exact (dg.planes p hp).1,fun x hx => by
 simp only [bQ] at hx
 rw [(List.mem_replicate.1 hx).2]; simp,fun x hx => by
 simp only [bQ,List.mem_map] at hx
 obtain ⟨p,hp,rfl⟩ := hx
 exact (dg.people p hp).1⟩
theorem aEu {d : aN} (dg : iJ d) {w t : Nat} (hw : w < d.weathers.length) (ht : t < aX d) : ∃ h2 : t < d.weathers[w].length,wAt d w t = d.weathers[w][t] ∧ 0 ≤ wAt d w t ∧ wAt d w t < 2 ^ 5 := by
 obtain ⟨h1,h2⟩ := dg.rows _ (List.getElem_mem hw)
 have h3 : t < d.weathers[w].length := by omega
 have e : wAt d w t = d.weathers[w][t] := by rw [wAt,aD hw,aD h3]
 exact ⟨h3,e,by rw [e]; exact h2 _ (List.getElem_mem h3)⟩
theorem zT {d : aN} {pol : dJ} {w t : Nat} {s : aJ} {l : List (List aE)} (ht : t < l.length) : goW d pol w (l.drop t) t s = if cfB d pol w t l[t] then .error ((w : Int),(t : Int),8) else if (dU d s (wAt d w t) l[t]).2.1 ≠ 1 then .error ((w : Int),(t : Int),(dU d s (wAt d w t) l[t]).2.1) else goW d pol w (l.drop (t + 1)) (t + 1) (dU d s (wAt d w t) l[t]).1 := by
 rw [List.drop_eq_getElem_cons ht,goW]
theorem zU {d : aN} {pol l : dJ} {w : Nat} {b bw : Int} (hw : w < l.length) : goP d pol (l.drop w) w b bw = match goW d pol w l[w] 0 (bQ d) with
 | .error e => .error e
 | .ok s => if b < qK d s then goP d pol (l.drop (w + 1)) (w + 1) (qK d s) w else goP d pol (l.drop (w + 1)) (w + 1) b bw := by
 rw [List.drop_eq_getElem_cons hw,goP]
theorem nI {ms : List Nat} {A B : Heap} (s : aB A B) : aB (msk ms A) (msk ms B) := rE s.1 fun i b _ e => s.2 i b e
end Go.Proofs.Ab
namespace Go.Proofs.Ab
open Go Go.Proofs
variable {w0 : World} {h : Heap}
attribute [local irreducible] ACall aT aW aM aQ rvC rdC lp rg dr ex un rv rd'
theorem aEy (d : aN) (v : cA) (m : AV) (i ib : Nat) (j : Int) (u : List aE) (uv : AV) (hd : h[i]? = some (some (.row (aU v ++ [m])))) (hR : hZ w0 h d v) (hb' : h[ib]? = some (some (.row [.ptr (.own i 0)]))) (hU : UnV w0 h uv u) (hn : u.length < 1000000) (hp : ∀ x ∈ u,x.people.length < 1000000) :
 aM Try.prog w0 98 [.int .i64 j,uv,.ptr (.own ib 0)] h (.bool (dK d u)) h := by
 refine aI aG aHY mf98_b mf98_g (Nat.le_of_ble_eq_true rfl) (by simp [AV.bdd,AV.bdds]) fun hb ha => aR ?_
 have b1 : ∀ L,(h ++ L)[ib]? = some (some (.row [.ptr (.own i 0)])) := fun L => aA hb'
 have b1' := b1 []
 rw [List.append_nil] at b1'
 simp only [go_sem,mf98,b1,b1']
 have hc := aEz (m := m) (i := i) u uv hd hR hU hn hp
 rw [← List.append_nil h] at hc
 refine aH hc.v ?_
 simp only [go_sem]
theorem aKw (d : aN) (v : cA) (pol : dJ) (pv : AV) (hR : hZ w0 h d v) (hP : nW w0 h pv pol) (hl : pol.length < 1000000) (hr : ∀ r ∈ pol,r.length < 1000000 ∧ ∀ u ∈ r,u.length < 1000000 ∧ ∀ x ∈ u,x.people.length < 1000000) :
 ACall Try.prog w0 58 [.agg (aU v),pv] h fun y H => aB h H ∧ y = .tup (oG (lF d pol) ++ [.int .i64 (lG d pol)]) := by
 refine bC aG aIq mf58_b mf58_g (Nat.le_of_ble_eq_true rfl) fun hb ha => aR ?_
 obtain ⟨y1,y2,y3,y4,y5⟩ := hR.ones
 obtain ⟨l1,l2,l3,l4,l5⟩ := hR.lens
 have lp := NS.len hP
 obtain ⟨G,eG⟩ : ∃ G,G = h ++ [some (Blk.row [v.pl,v.ln,v.pn,v.pe,v.we]),some (Blk.row [AV.int .i64 0,AV.int .i64 0,AV.int .i64 0])] := ⟨_,rfl⟩
 have sG : aB h G := eG ▸ aB.refl.app
 have gl : G.length = h.length + 2 := by rw [eG]; simp
 have g0 : G[h.length]? = some (some (.row [v.pl,v.ln,v.pn,v.pe,v.we])) := by rw [eG]; simp
 have g1 : G[h.length + 1]? = some (some (.row [.int .i64 0,.int .i64 0,.int .i64 0])) := by rw [eG]; simp
 have b0 : ∀ L,(G ++ L)[h.length]? = some (some (.row [v.pl,v.ln,v.pn,v.pe,v.we])) := fun L => aA g0
 have b1 : ∀ L,(G ++ L)[h.length + 1]? = some (some (.row [.int .i64 0,.int .i64 0,.int .i64 0])) := fun L => aA g1
 simp only [go_sem,mf58,aU,y1,y2,y3,y4,y5]
 rw [← eG]
 refine aH (wH d v (hR.sub sG)).v ?_
 have fin : ∀ (H : Heap),aB G H → (eZ d && oM d pol) = false → aB h (H.set (h.length + 1) (some (Blk.row [.int .i64 0,.int .i64 0,.int .i64 0]))) ∧ AV.tup [.int .i64 0,.int .i64 0,.agg [.int .i64 0,.int .i64 0,.int .i64 0],.int .i64 2] = .tup (oG (lF d pol) ++ [.int .i64 (lG d pol)]) := fun H s e => by
  refine ⟨(sG.trans s).setR (by omega),?_⟩
  rw [lF,lG,e]; rfl
 have z1 : ∀ (H : Heap) x,aB G H → (H.set (h.length + 1) (some (Blk.row x)))[h.length + 1]? = some (some (Blk.row x)) := fun H x s => List.getElem?_set_self (by have := s.1; omega)
 cases e1 : eZ d with
 | false =>
  simp only [go_sem,g1,b1,z1 G _ aB.refl]
  exact fin _ aB.refl (by rw [e1]; rfl)
 | true =>
 have dg := uJ e1
 simp only [go_sem,g0,b0,l5,lp]
 refine ⟨fun e2 => ?_,fun e2 => ?_⟩
 · simp only [go_sem,g1,b1,z1 G _ aB.refl]
   exact fin _ aB.refl (by rw [oM,decide_eq_false (by omega)]; simp)
 simp only [go_sem,y1,y2,y3,y4,y5]
 obtain ⟨K,eK⟩ : ∃ K,K = G ++ [some (Blk.row [v.pl,v.ln,v.pn,v.pe,v.we,.nilM]),some (Blk.row [.ptr (.own G.length 0)])] := ⟨_,rfl⟩
 have sK : aB G K := eK ▸ aB.refl.app
 have kl : K.length = G.length + 2 := by rw [eK]; simp
 have k0 := sK.2 _ _ g0
 have k1 := sK.2 _ _ g1
 have k2 : K[G.length]? = some (some (.row (aU v ++ [.nilM]))) := by rw [eK]; simp [aU]
 have k3 : K[G.length + 1]? = some (some (.row [.ptr (.own G.length 0)])) := by rw [eK]; simp
 have k0L : ∀ L,(K ++ L)[h.length]? = some (some (.row [v.pl,v.ln,v.pn,v.pe,v.we])) := fun L => aA k0
 have k1L : ∀ L,(K ++ L)[h.length + 1]? = some (some (.row [.int .i64 0,.int .i64 0,.int .i64 0])) := fun L => aA k1
 have k3L : ∀ L,(K ++ L)[G.length + 1]? = some (some (.row [.ptr (.own G.length 0)])) := fun L => aA k3
 rw [← eK]
 have hRK := hR.sub (sG.trans sK)
 have hPK := hP.sub (sG.trans sK)
 simp only [go_sem,lp]
 have hD := aKn e1 k2 hRK
 refine bZ (fun j => [(1,pv),(2,.ptr (.own h.length 0)),(6,.ptr (.own (h.length + 1) 0)),(8,.ptr (.own (G.length + 1) 0)),(37,pv),(38,.int .i64 pol.length),(39,.int .i64 j)]) (fun j => ∀ hj : j < pol.length,pol[j].length = aX d ∧ pol[j].all (dK d) = true) pol.length rfl (fun j hj hi ih => ?_) (fun es => ?_)
 · refine aC aG aC2 [1,2,6,8,37,38,39] L58_0.eq_1 ?_
   have i3 : (j : Int) < pol.length := by omega
   obtain ⟨p,x,i,t,t',sx'⟩ := hPK.row hj
   have lx := NS.len sx'
   have hrj := hr _ (List.getElem_mem hj)
   have hno : (decide (pol[j].length = aX d) && pol[j].all (dK d)) = false → (eZ d && oM d pol) = false := fun e => by
    have : pol.all (fun r => decide (r.length = aX d) && r.all (dK d)) = false := List.all_eq_false.2 ⟨_,List.getElem_mem hj,by simp only [e]; exact Bool.false_ne_true⟩
    simp only [oM,this,Bool.false_and,Bool.and_false]
   obtain ⟨q0,z0,i0,r0,s0⟩ := pF hD dg
   have r0' := r0 []
   rw [List.append_nil] at r0'
   simp only [go_sem,i3,i,t,t',lx,k0,k0L,i0,r0,r0',s0]
   refine ⟨fun e => ?_,fun e => ?_⟩
   rotate_left
   · simp only [go_sem,k1,k1L,z1 K _ sK]
     exact fin K sK (hno (by rw [decide_eq_false (by omega),Bool.false_and]))
   have hlen : pol[j].length = aX d := by omega
   obtain ⟨rows,r1,r2,r3⟩ := sx'
   have hrow : ∀ q c,rows[q]? = some c → ∃ (hq : q < pol[j].length) (y : AV),c = [y] ∧ UnV w0 K y pol[j][q] := fun q c hc => by
    have hq : q < pol[j].length := by have := aK hc; omega
    obtain ⟨y,rfl,p3⟩ := r3 q _ c (List.getElem?_eq_getElem hq) hc
    exact ⟨hq,y,rfl,p3⟩
   have key : (List.range rows.length).all (fun q => dK d (pol[j].getD q [])) = pol[j].all (dK d) := by rw [r1,cR]
   have hall := aKu (h := K) rows x (.fn (.func 98) [] [.ptr (.own (G.length + 1) 0)]) (fun q => dK d (pol[j].getD q [])) r2 (fun c hc => by
    obtain ⟨q,hq,rfl⟩ := List.getElem_of_mem hc
    obtain ⟨_,y,e,p3⟩ := hrow q _ (List.getElem?_eq_getElem hq)
    rw [e]
    simp only [List.all_cons,List.all_nil,(NS.one p3).1,Bool.and_true]) (by omega) fun q y hy _ L => by
    obtain ⟨hq,y',e,p3⟩ := hrow q _ hy
    cases e
    rw [aD hq]
    have hru := hrj.2 _ (List.getElem_mem hq)
    exact (aEy d v .nilM G.length (G.length + 1) q pol[j][q] y (aA k2) hRK.app (aA k3) (UnV.sub p3 aB.refl.app) hru.1 hru.2).vc (first := []) (capt := [_])
   rw [key] at hall
   refine aH hall.v ?_
   cases e3 : pol[j].all (dK d) with
   | false =>
    simp only [go_sem,k1,k1L,z1 K _ sK]
    exact fin K sK (hno (by rw [e3,Bool.and_false]))
   | true =>
    simp only [go_sem]
    exact ⟨(by unfold I64; omega),ih fun _ => ⟨hlen,e3⟩⟩
 refine aC aG aC2 [1,2,6,8,37,38,39] L58_0.eq_1 ?_
 have i3 : ¬ (pol.length : Int) < pol.length := by omega
 have hPB : oM d pol = true := by
  have : pol.all (fun r => decide (r.length = aX d) && r.all (dK d)) = true := List.all_eq_true.2 fun r hr => by
   obtain ⟨i,hi,rfl⟩ := List.getElem_of_mem hr
   obtain ⟨a,b⟩ := es i hi hi
   rw [b,decide_eq_true a]; rfl
  rw [oM,this,decide_eq_true (by omega)]; rfl
 have ok := aBY hPB
 have hW : lF d pol = lH d pol ∧ lG d pol = 0 := by rw [lF,lG,e1,hPB]; exact ⟨rfl,rfl⟩
 rw [hW.1,hW.2]
 simp only [go_sem,i3,lp]
 have hrow0 : ∀ (w : Nat) (hw : w < pol.length),pol[w].length = aX d := ok.row
 have hsl := dg.s1
 have hplen : pol.length = d.weathers.length := ok.len
 have hbad : ∀ (H : Heap) (x y z : Int),aB K H → goP d pol pol 0 (-1) 0 = .error (x,y,z) → aB h (H.set (h.length + 1) (some (Blk.row [.int .i64 x,.int .i64 y,.int .i64 z]))) ∧ AV.tup [.int .i64 0,.int .i64 0,.agg [.int .i64 x,.int .i64 y,.int .i64 z],.int .i64 0] = .tup (oG (lH d pol) ++ [.int .i64 0]) := fun H x y z s e => by
  refine ⟨(sG.trans (sK.trans s)).setR (by omega),?_⟩
  rw [lH,e]; rfl
 refine cK (S := Heap × Int × Int) (fun j st => [(1,pv),(2,.ptr (.own h.length 0)),(6,.ptr (.own (h.length + 1) 0)),(8,.ptr (.own (G.length + 1) 0)),(11,.int .i64 st.2.1),(12,.int .i64 st.2.2),(59,pv),(60,.int .i64 pol.length),(61,.int .i64 j)]) (fun _ st => st.1)
  (fun j st => aB K st.1 ∧ goP d pol pol 0 (-1) 0 = goP d pol (pol.drop j) j st.2.1 st.2.2) pol.length (K,-1,0) ⟨aB.refl,rfl⟩ rfl rfl (fun j st hj I ih => ?_) (fun st I => ?_)
 · refine aC aG aCZ [1,2,6,8,11,12,59,60,61] L58_3.eq_1 ?_
   obtain ⟨H,b,bw⟩ := st
   obtain ⟨sH,hg⟩ := I
   simp only at sH hg ih ⊢
   rw [zU hj] at hg
   have i4 : (j : Int) < pol.length := by omega
   obtain ⟨p,x,i,t,t',sx'⟩ := (hPK.sub sH).row hj
   have lx := NS.len sx'
   have m3 := sH.2 _ _ k3
   have m3L : ∀ L,(H ++ L)[G.length + 1]? = some (some (.row [.ptr (.own G.length 0)])) := fun L => aA m3
   simp only [go_sem,i4,i,t,t',m3,m3L]
   refine aV (ACall.vc (first := []) (args := [_]) (aCv d v .nilM G.length (hD.sub sH) dg)) ?_
   rintro y H1 ⟨s1,nv,rfl,hst⟩
   obtain ⟨o1,o2,o3⟩ := ((hst [] (by simp)).sub bM).ones
   simp only [go_sem,stC,o1,o2,o3,lx]
   obtain ⟨M0,eM0⟩ : ∃ M0,M0 = H1 ++ [some (Blk.row [nv.pl,nv.le,nv.pe])] := ⟨_,rfl⟩
   have sM0 : aB H1 M0 := eM0 ▸ aB.refl.app
   have hrl := hrow0 j hj
   have hjw : j < d.weathers.length := by omega
   rw [← eM0]
   refine cK (S := Heap × aJ × StV) (fun q st => [(1,pv),(2,.ptr (.own h.length 0)),(6,.ptr (.own (h.length + 1) 0)),(8,.ptr (.own (G.length + 1) 0)),(11,.int .i64 b),(12,.int .i64 bw),(13,.int .i64 j),(15,.ptr (.own H1.length 0)),(59,pv),(60,.int .i64 pol.length),(61,.int .i64 j),(68,x),(69,.int .i64 pol[j].length),(70,.int .i64 q)]) (fun _ st => st.1)
    (fun q st => aB H1 st.1 ∧ st.1[H1.length]? = some (some (.row (stC st.2.2))) ∧ StS w0 (msk [H1.length] st.1) st.2.1 st.2.2 ∧ StN d q st.2.1 ∧ goW d pol j pol[j] 0 (bQ d) = goW d pol j (pol[j].drop q) q st.2.1) pol[j].length (M0,bQ d,nv) ⟨sM0,by rw [eM0]; simp [stC],?_,aAx dg,rfl⟩ rfl rfl (fun q st hq Iq iq => ?_) (fun st Iq => ?_)
   · exact (hst [] (by simp)).sub ((aB.toK (C := []) sM0).mskm (ms := []) (ns := [H1.length]) (by simp) fun c hc => .inr (by simp only [List.mem_singleton] at hc; omega))
   · refine aC aG aC0 [1,2,6,8,11,12,13,15,59,60,61,68,69,70] L58_2.eq_1 ?_
     obtain ⟨M,s,sv⟩ := st
     obtain ⟨sM,hk,hs,hn,hw⟩ := Iq
     simp only at sM hk hs hn hw iq ⊢
     rw [zT hq] at hw
     have i5 : (q : Int) < pol[j].length := by omega
     obtain ⟨p2,uv,i2,t2,t2',hU⟩ := qT (NS.mono sx' (s1.trans sM) fun _ _ ⟨y,e,u⟩ => ⟨y,e,u.sub (s1.trans sM)⟩) hq
     simp only [go_sem,i5,i2,t2,t2']
     have sKM := sH.trans (s1.trans sM)
     have hPM := hPK.sub sKM
     have hDM := hD.sub sKM
     have n0 := sKM.2 _ _ k0
     have n1 := sKM.2 _ _ k1
     have n3 := sKM.2 _ _ k3
     have n0L : ∀ L,(M ++ L)[h.length]? = some (some (.row [v.pl,v.ln,v.pn,v.pe,v.we])) := fun L => aA n0
     have n1L : ∀ L,(M ++ L)[h.length + 1]? = some (some (.row [.int .i64 0,.int .i64 0,.int .i64 0])) := fun L => aA n1
     have n3L : ∀ L,(M ++ L)[G.length + 1]? = some (some (.row [.ptr (.own G.length 0)])) := fun L => aA n3
     refine bZ (fun a => [(1,pv),(2,.ptr (.own h.length 0)),(6,.ptr (.own (h.length + 1) 0)),(8,.ptr (.own (G.length + 1) 0)),(11,.int .i64 b),(12,.int .i64 bw),(13,.int .i64 j),(15,.ptr (.own H1.length 0)),(16,.int .i64 q),(17,uv),(59,pv),(60,.int .i64 pol.length),(61,.int .i64 j),(68,x),(69,.int .i64 pol[j].length),(70,.int .i64 q),(75,.int .i64 j),(76,.int .i64 a)]) (fun a => (kL d a j q && !decide ((pol.getD a []).getD q [] = pol[j][q])) = false) j rfl (fun a ha _ ia => ?_) (fun hall => ?_)
     · refine aC aG aC1 [1,2,6,8,11,12,13,15,16,17,59,60,61,68,69,70,75,76] L58_1.eq_1 ?_
       have i6 : (a : Int) < j := by omega
       have hap : a < pol.length := by omega
       have hal := hrow0 a hap
       obtain ⟨p3,x3,i3a,t3,t3',s3⟩ := hPM.row hap
       obtain ⟨p4,y4a,i4a,t4,t4',s4⟩ := qT s3 (show q < pol[a].length by omega)
       have wa : ∀ (w : Nat),w < d.weathers.length → (fE d w).length = aX d := fun w hw => by rw [lI hw]; exact (dg.rows _ (List.getElem_mem hw)).1
       have hua := (hr _ (List.getElem_mem hap)).2 _ (List.getElem_mem (show q < pol[a].length by omega))
       rw [aD hap,aD (show q < pol[a].length by omega)] at ia
       have hc1 := aKv (h := M) d v .nilM G.length a j q (hR.sub (sG.trans (sK.trans sKM))).toDayS hDM.hd (by omega) hjw (by rw [wa a (by omega)]; omega) (by rw [wa j hjw]; omega) (by rw [wa a (by omega)]; omega)
       simp only [go_sem,i6,n3,n3L]
       refine aH hc1.v ?_
       cases c1 : kL d a j q with
       | false =>
        simp only [go_sem]
        exact ⟨(by unfold I64; omega),ia (by rw [c1]; rfl)⟩
       | true =>
       simp only [go_sem,i3a,t3,t3',i4a,t4,t4']
       have hc2 := aEY (h := M) pol[a][q] pol[j][q] y4a uv s4 hU hua.1 hua.2
       refine aH hc2.v ?_
       by_cases c2 : pol[a][q] = pol[j][q]
       · rw [decide_eq_true c2] at ia ⊢
         simp only [go_sem]
         exact ⟨(by unfold I64; omega),ia (by simp)⟩
       · rw [decide_eq_false c2] at ia ⊢
         simp only [go_sem,n1,n1L,z1 M _ (sK.trans sKM)]
         refine hbad M j q 8 sKM ?_
         have hcf : cfB d pol j q pol[j][q] = true := by
          rw [cfB,List.any_eq_true]
          refine ⟨a,List.mem_range.2 ha,?_⟩
          rw [aD hap,aD (show q < pol[a].length by omega),c1,decide_eq_false c2]; rfl
         rw [hcf,if_pos rfl] at hw
         rw [hg,hw]
     · refine aC aG aC1 [1,2,6,8,11,12,13,15,16,17,59,60,61,68,69,70,75,76] L58_1.eq_1 ?_
       have i6 : ¬ (j : Int) < j := by omega
       have hcf : cfB d pol j q pol[j][q] = false := by
        rw [cfB,List.any_eq_false]
        intro a ha
        rw [hall a (List.mem_range.1 ha)]; simp
       rw [hcf,if_neg (by simp)] at hw
       simp only [go_sem,i6]
       obtain ⟨h2,ew,ew0,ew1⟩ := aEu dg hjw (show q < aX d by omega)
       obtain ⟨pw,xw,iw,tw,sw⟩ := (hR.sub (sG.trans (sK.trans sKM))).toDayS.weathers.at_ hjw
       obtain ⟨po,io,ro,ro'⟩ := SlI.at_ sw h2
       obtain ⟨v1,v2,v3⟩ := (hs.sub bM).ones
       have hkL : ∀ L,(M ++ L)[H1.length]? = some (some (.row [sv.pl,sv.le,sv.pe])) := fun L => aA hk
       have hk' := hk
       simp only [stC] at hk'
       have tw' := tw []
       rw [List.append_nil] at tw'
       rw [← ew] at ro ro'
       refine wB aG D58_0.eq_1 (by kernel_rfl) ?_
       simp only [go_sem,n3,n3L,hk',hkL,v1,v2,v3,n0,n0L,iw,tw,tw',io,ro,ro']
       have hub := aBR (ok.un j hj q hq)
       refine aV (ACall.vc (first := []) (args := [_,_,_,_]) (fly_c d v .nilM G.length s sv (wAt d j q) pol[j][q] uv hDM (hs.sub bM) (hn.ok (by omega)) hU (hub.ok dg.pe) ew0 (by omega)).toA) ?_
       rintro y H2 ⟨s2,nw,rfl,hnw,how⟩
       have hst2 := xR (op := wAt d j q) hub.len (hub.fl dg.pe) hn
       obtain ⟨r,er⟩ : ∃ r,r = (dU d s (wAt d j q) pol[j][q]).2.1 := ⟨_,rfl⟩
       obtain ⟨pp,ep⟩ : ∃ p,p = (dU d s (wAt d j q) pol[j][q]).2.2 := ⟨_,rfl⟩
       obtain ⟨s',es'⟩ : ∃ s',s' = (dU d s (wAt d j q) pol[j][q]).1 := ⟨_,rfl⟩
       rw [← er,← es'] at hw
       rw [← es'] at hst2 how hnw
       rw [← er,← ep]
       obtain ⟨u1,u2,u3⟩ := hnw.ones
       obtain ⟨H3,eH3⟩ : ∃ H3,H3 = H2 ++ [some (Blk.row [nw.pl,nw.le,nw.pe]),some (Blk.row [.int .i64 r,.int .i64 pp])] := ⟨_,rfl⟩
       have s3 : aB H2 H3 := eH3 ▸ aB.refl.app
       have f1 : H3[H2.length]? = some (some (.row [nw.pl,nw.le,nw.pe])) := by rw [eH3]; simp
       have f2 : H3[H2.length + 1]? = some (some (.row [.int .i64 r,.int .i64 pp])) := by rw [eH3]; simp
       have f2L : ∀ L,(H3 ++ L)[H2.length + 1]? = some (some (.row [.int .i64 r,.int .i64 pp])) := fun L => aA f2
       have f3 := (s2.trans s3).2 _ _ hk'
       have f4 := (s2.trans s3).2 _ _ n1
       have f4L : ∀ L,(H3 ++ L)[h.length + 1]? = some (some (.row [.int .i64 0,.int .i64 0,.int .i64 0])) := fun L => aA f4
       simp only [go_sem,stC,u1,u2,u3]
       rw [← eH3]
       have lM := aK hk
       have l2 := s2.1
       have sK3 := sKM.trans (s2.trans s3)
       simp only [go_sem,f2,f2L,f4,f4L,z1 H3 _ (sK.trans sK3)]
       refine ⟨fun e => hbad H3 j q r sK3 (by rw [hg,hw,if_pos e]),fun e => ?_⟩
       rw [if_neg (fun x => x e)] at hw
       simp only [go_sem,f3]
       have hmk : aB (msk [H1.length] M) (msk [H1.length] H3) := nI (s2.trans s3)
       have hso : StS w0 (msk [H1.length] H3) s' nw := by
        rcases how with ⟨h1,h2⟩ | ho
        · rw [h1,h2]; exact hs.sub hmk
        · exact (ho.st (C := [H1.length]) fun i hi => by simp only [List.mem_singleton] at hi; omega).sub (nI s3)
       have := iq (H3.set H1.length (some (.row (stC nw))),s',nw) ⟨(sM.trans (s2.trans s3)).setR (Nat.le_refl _),by simp only; exact List.getElem?_set_self (aK f3),by simp only; rw [pU (by simp)]; exact hso,hst2,hw⟩
       exact ⟨(by unfold I64; omega),by simpa [stC] using this⟩
   · refine aC aG aC0 [1,2,6,8,11,12,13,15,59,60,61,68,69,70] L58_2.eq_1 ?_
     obtain ⟨M,s,sv⟩ := st
     obtain ⟨sM,hk,hs,hn,hw⟩ := Iq
     simp only at sM hk hs hn hw ⊢
     rw [List.drop_length,goW] at hw
     rw [hw] at hg
     have i5 : ¬ (pol[j].length : Int) < pol[j].length := by omega
     have sKM := sH.trans (s1.trans sM)
     have hDM := hD.sub sKM
     have n3 := sKM.2 _ _ k3
     have n3L : ∀ L,(M ++ L)[G.length + 1]? = some (some (.row [.ptr (.own G.length 0)])) := fun L => aA n3
     obtain ⟨v1,v2,v3⟩ := (hs.sub bM).ones
     simp only [stC] at hk
     have hkL : ∀ L,(M ++ L)[H1.length]? = some (some (.row [sv.pl,sv.le,sv.pe])) := fun L => aA hk
     simp only [go_sem,i5,n3,n3L,hk,hkL,v1,v2,v3]
     refine aH (aGt d v .nilM G.length s sv hDM (hs.sub bM) (hn.ok (by omega)) (mZ dg s) (nH dg s) hn.pat).v ?_
     simp only [go_sem]
     refine ⟨fun e => ⟨(by unfold I64; omega),?_⟩,fun e => ⟨(by unfold I64; omega),?_⟩⟩
     · simp only [if_pos e] at hg
       have := ih (M,qK d s,j) ⟨sKM,hg⟩
       simpa using this
     · simp only [if_neg e] at hg
       have := ih (M,b,bw) ⟨sKM,hg⟩
       simpa using this
 refine aC aG aCZ [1,2,6,8,11,12,59,60,61] L58_3.eq_1 ?_
 obtain ⟨H,b,bw⟩ := st
 obtain ⟨sH,hg⟩ := I
 simp only at sH hg ⊢
 rw [List.drop_length,goP] at hg
 have m1 := sH.2 _ _ k1
 have m1L : ∀ L,(H ++ L)[h.length + 1]? = some (some (.row [.int .i64 0,.int .i64 0,.int .i64 0])) := fun L => aA m1
 simp only [go_sem,i3,m1,m1L,z1 H _ (sK.trans sH)]
 refine ⟨(sG.trans (sK.trans sH)).setR (by omega),?_⟩
 rw [lH,hg]; rfl
end Go.Proofs.Ab
namespace Go.Proofs.Ab
open Go Go.Proofs
variable {w0 : World} {h : Heap}
attribute [local irreducible] ACall aT aW aM aQ rvC rdC lp rg dr ex un rv rd'
theorem aEZ (d : aN) (v : cA) (pol : dJ) (pv : AV) (hR : hZ w0 h d v) (hP : nW w0 h pv pol) (dg : iJ d) (ok : PolOK d pol) (hr : ∀ r ∈ pol,∀ u ∈ r,u.length < 1000000 ∧ ∀ x ∈ u,x.people.length < 1000000) :
 ACall Try.prog w0 59 [.agg (aU v),pv] h fun y H => aB h H ∧ y = .tup (oG (lH d pol)) := by
 refine bC aG aIp mf59_b mf59_g (Nat.le_of_ble_eq_true rfl) fun hb ha => aR ?_
 obtain ⟨y1,y2,y3,y4,y5⟩ := hR.ones
 have lp := NS.len hP
 have w1 := dg.w1
 obtain ⟨K,eK⟩ : ∃ K,K = h ++ [some (Blk.row [v.pl,v.ln,v.pn,v.pe,v.we]),some (Blk.row [AV.int .i64 0,AV.int .i64 0,AV.int .i64 0])] := ⟨_,rfl⟩
 have sK : aB h K := eK ▸ aB.refl.app
 have kl : K.length = h.length + 2 := by rw [eK]; simp
 have k0 : K[h.length]? = some (some (.row [v.pl,v.ln,v.pn,v.pe,v.we])) := by rw [eK]; simp
 have k1 : K[h.length + 1]? = some (some (.row [.int .i64 0,.int .i64 0,.int .i64 0])) := by rw [eK]; simp
 simp only [go_sem,mf59,aU,y1,y2,y3,y4,y5]
 rw [← eK]
 have hRK := hR.sub sK
 have hPK := hP.sub sK
 have z1 : ∀ (H : Heap) x,aB K H → (H.set (h.length + 1) (some (Blk.row x)))[h.length + 1]? = some (some (Blk.row x)) := fun H x s => List.getElem?_set_self (by have := s.1; omega)
 have hsl := dg.s1
 have hplen : pol.length = d.weathers.length := ok.len
 have hbad : ∀ (H : Heap) (x y z : Int),aB K H → goP d pol pol 0 (-1) 0 = .error (x,y,z) → aB h (H.set (h.length + 1) (some (Blk.row [.int .i64 x,.int .i64 y,.int .i64 z]))) ∧ AV.tup [.int .i64 0,.int .i64 0,.agg [.int .i64 x,.int .i64 y,.int .i64 z]] = .tup (oG (lH d pol)) := fun H x y z s e => by
  refine ⟨(sK.trans s).setR (by omega),?_⟩
  rw [lH,e]; rfl
 refine cK (S := Heap × Int × Int) (fun j st => [(1,pv),(2,.ptr (.own h.length 0)),(6,.ptr (.own (h.length + 1) 0)),(7,.int .i64 st.2.1),(8,.int .i64 st.2.2),(9,.int .i64 j)]) (fun _ st => st.1)
  (fun j st => aB K st.1 ∧ goP d pol pol 0 (-1) 0 = goP d pol (pol.drop j) j st.2.1 st.2.2) pol.length (K,-1,0) ⟨aB.refl,rfl⟩ rfl rfl (fun j st hj I ih => ?_) (fun st I => ?_)
 · refine aC aG aCW [1,2,6,7,8,9] L59_2.eq_1 ?_
   obtain ⟨H,b,bw⟩ := st
   obtain ⟨sH,hg⟩ := I
   simp only at sH hg ih ⊢
   rw [zU hj] at hg
   have i4 : (j : Int) < pol.length := by omega
   obtain ⟨p,x,i,t,t',sx'⟩ := (hPK.sub sH).row hj
   have lx := NS.len sx'
   have m0 := sH.2 _ _ k0
   have m0L : ∀ L,(H ++ L)[h.length]? = some (some (.row [v.pl,v.ln,v.pn,v.pe,v.we])) := fun L => aA m0
   simp only [go_sem,lp,i4,m0,m0L,y1,y2,y3,y4,y5]
   refine aV (ACall.vc (first := []) (args := [_]) (yZ d v (hR.sub (sK.trans sH)))) ?_
   rintro y H1 ⟨s1,nv,rfl,hst⟩
   obtain ⟨o1,o2,o3⟩ := hst.ones
   simp only [go_sem,stC,o1,o2,o3]
   obtain ⟨M0,eM0⟩ : ∃ M0,M0 = H1 ++ [some (Blk.row [nv.pl,nv.le,nv.pe])] := ⟨_,rfl⟩
   have sM0 : aB H1 M0 := eM0 ▸ aB.refl.app
   have hrl := ok.row j hj
   have hjw : j < d.weathers.length := by omega
   rw [← eM0]
   refine cK (S := Heap × aJ × StV) (fun q st => [(1,pv),(2,.ptr (.own h.length 0)),(6,.ptr (.own (h.length + 1) 0)),(7,.int .i64 b),(8,.int .i64 bw),(9,.int .i64 j),(10,.ptr (.own H1.length 0)),(11,.int .i64 q)]) (fun _ st => st.1)
    (fun q st => aB H1 st.1 ∧ st.1[H1.length]? = some (some (.row (stC st.2.2))) ∧ StS w0 (msk [H1.length] st.1) st.2.1 st.2.2 ∧ StN d q st.2.1 ∧ goW d pol j pol[j] 0 (bQ d) = goW d pol j (pol[j].drop q) q st.2.1) pol[j].length (M0,bQ d,nv) ⟨sM0,by rw [eM0]; simp [stC],?_,aAx dg,rfl⟩ rfl rfl (fun q st hq Iq iq => ?_) (fun st Iq => ?_)
   · have := (aB.toK (C := []) sM0).mskm (ms := []) (ns := [H1.length]) (by simp) fun c hc => .inr (by simp only [List.mem_singleton] at hc; omega)
     exact hst.sub (by simpa [msk] using this)
   · refine aC aG aCX [1,2,6,7,8,9,10,11] L59_1.eq_1 ?_
     obtain ⟨M,s,sv⟩ := st
     obtain ⟨sM,hk,hs,hn,hw⟩ := Iq
     simp only at sM hk hs hn hw iq ⊢
     rw [zT hq] at hw
     have i5 : (q : Int) < pol[j].length := by omega
     have sKM := sH.trans (s1.trans sM)
     have hPM := hPK.sub sKM
     obtain ⟨pj,xj,ij,tj,tj',sxj⟩ := hPM.row hj
     have lxj := NS.len sxj
     obtain ⟨p2,uv,i2,t2,t2',hU⟩ := qT sxj hq
     simp only [go_sem,i5,ij,tj,tj',lxj]
     have hRM := hRK.sub sKM
     have n0 := sKM.2 _ _ k0
     have n1 := sKM.2 _ _ k1
     have n0L : ∀ L,(M ++ L)[h.length]? = some (some (.row [v.pl,v.ln,v.pn,v.pe,v.we])) := fun L => aA n0
     have n1L : ∀ L,(M ++ L)[h.length + 1]? = some (some (.row [.int .i64 0,.int .i64 0,.int .i64 0])) := fun L => aA n1
     refine bZ (fun a => [(1,pv),(2,.ptr (.own h.length 0)),(6,.ptr (.own (h.length + 1) 0)),(7,.int .i64 b),(8,.int .i64 bw),(9,.int .i64 j),(10,.ptr (.own H1.length 0)),(11,.int .i64 q),(12,.int .i64 a)]) (fun a => (kL d a j q && !decide ((pol.getD a []).getD q [] = pol[j][q])) = false) j rfl (fun a ha _ ia => ?_) (fun hall => ?_)
     · refine aC aG aCY [1,2,6,7,8,9,10,11,12] L59_0.eq_1 ?_
       have i6 : (a : Int) < j := by omega
       have hap : a < pol.length := by omega
       have hal := ok.row a hap
       obtain ⟨p3,x3,i3a,t3,t3',s3⟩ := hPM.row hap
       obtain ⟨p4,y4a,i4a,t4,t4',s4⟩ := qT s3 (show q < pol[a].length by omega)
       have wa : ∀ (w : Nat),w < d.weathers.length → (fE d w).length = aX d := fun w hw => by rw [lI hw]; exact (dg.rows _ (List.getElem_mem hw)).1
       have hua := hr _ (List.getElem_mem hap) _ (List.getElem_mem (show q < pol[a].length by omega))
       rw [aD hap,aD (show q < pol[a].length by omega)] at ia
       have hc1 := aKc (h := M) d v a j q hRM.toDayS (by omega) hjw (by rw [wa a (by omega)]; omega) (by rw [wa j hjw]; omega) (by omega)
       simp only [go_sem,i6,n0,n0L,y1,y2,y3,y4,y5]
       refine dZ hc1.v ?_
       cases c1 : kL d a j q with
       | false =>
        simp only [go_sem]
        exact ⟨(by unfold I64; omega),ia (by rw [c1]; rfl)⟩
       | true =>
       simp only [go_sem,i3a,t3,t3',i4a,t4,t4',ij,tj,tj',i2,t2,t2']
       have hc2 := tL (h := M) pol[a][q] pol[j][q] y4a uv s4 hU hua.1 hua.2
       refine dZ hc2.v ?_
       by_cases c2 : pol[a][q] = pol[j][q]
       · rw [decide_eq_true c2] at ia ⊢
         simp only [go_sem]
         exact ⟨(by unfold I64; omega),ia (by simp)⟩
       · rw [decide_eq_false c2] at ia ⊢
         simp only [go_sem,n1,n1L,z1 M _ sKM]
         refine hbad M j q 8 sKM ?_
         have hcf : cfB d pol j q pol[j][q] = true := by
          rw [cfB,List.any_eq_true]
          refine ⟨a,List.mem_range.2 ha,?_⟩
          rw [aD hap,aD (show q < pol[a].length by omega),c1,decide_eq_false c2]; rfl
         rw [hcf,if_pos rfl] at hw
         rw [hg,hw]
     · refine aC aG aCY [1,2,6,7,8,9,10,11,12] L59_0.eq_1 ?_
       have i6 : ¬ (j : Int) < j := by omega
       have hcf : cfB d pol j q pol[j][q] = false := by
        rw [cfB,List.any_eq_false]
        intro a ha
        rw [hall a (List.mem_range.1 ha)]; simp
       rw [hcf,if_neg (by simp)] at hw
       simp only [go_sem,i6]
       obtain ⟨h2,ew,ew0,ew1⟩ := aEu dg hjw (show q < aX d by omega)
       obtain ⟨pw,xw,iw,tw,sw⟩ := hRM.toDayS.weathers.at_ hjw
       obtain ⟨po,io,ro,ro'⟩ := SlI.at_ sw h2
       obtain ⟨v1,v2,v3⟩ := (hs.sub bM).ones
       have hkL : ∀ L,(M ++ L)[H1.length]? = some (some (.row [sv.pl,sv.le,sv.pe])) := fun L => aA hk
       have hk' := hk
       simp only [stC] at hk'
       have tw' := tw []
       rw [List.append_nil] at tw'
       rw [← ew] at ro ro'
       refine wB aG D59_0.eq_1 (by kernel_rfl) ?_
       simp only [go_sem,hk',hkL,v1,v2,v3,n0,n0L,iw,tw,tw',io,ro,ro',y1,y2,y3,y4,y5,ij,tj,tj',i2,t2,t2']
       have hub := aBR (ok.un j hj q hq)
       refine aV (ACall.vc (first := []) (args := [_,_,_,_]) (rfly_c d v s sv (wAt d j q) pol[j][q] uv hRM (hs.sub bM) hU dg (hn.ok (by omega)) hub ew0 (by omega))) ?_
       rintro y H2 ⟨s2,nw,rfl,hnw,how⟩
       rw [aHK hub dg.pe] at hnw how ⊢
       have hst2 := xR (op := wAt d j q) hub.len (hub.fl dg.pe) hn
       obtain ⟨r,er⟩ : ∃ r,r = (dU d s (wAt d j q) pol[j][q]).2.1 := ⟨_,rfl⟩
       obtain ⟨pp,ep⟩ : ∃ p,p = (dU d s (wAt d j q) pol[j][q]).2.2 := ⟨_,rfl⟩
       obtain ⟨s',es'⟩ : ∃ s',s' = (dU d s (wAt d j q) pol[j][q]).1 := ⟨_,rfl⟩
       rw [← er,← es'] at hw
       rw [← es'] at hst2 how hnw
       rw [← er,← ep]
       obtain ⟨u1,u2,u3⟩ := hnw.ones
       obtain ⟨H3,eH3⟩ : ∃ H3,H3 = H2 ++ [some (Blk.row [nw.pl,nw.le,nw.pe])] := ⟨_,rfl⟩
       have s3 : aB H2 H3 := eH3 ▸ aB.refl.app
       have f1 : H3[H2.length]? = some (some (.row [nw.pl,nw.le,nw.pe])) := by rw [eH3]; simp
       have f1L : ∀ L,(H3 ++ L)[H2.length]? = some (some (.row [nw.pl,nw.le,nw.pe])) := fun L => aA f1
       have f3 := (s2.trans s3).2 _ _ hk'
       have f4 := (s2.trans s3).2 _ _ n1
       have f4L : ∀ L,(H3 ++ L)[h.length + 1]? = some (some (.row [.int .i64 0,.int .i64 0,.int .i64 0])) := fun L => aA f4
       simp only [go_sem,stC,u1,u2,u3]
       rw [← eH3]
       have lM := aK hk
       have l2 := s2.1
       have sK3 := sKM.trans (s2.trans s3)
       simp only [go_sem,f1,f1L,f4,f4L,z1 H3 _ sK3,f3,u1,u2,u3]
       refine ⟨fun e => hbad H3 j q r sK3 (by rw [hg,hw,if_pos e]),fun e => ?_⟩
       rw [if_neg (fun x => x e)] at hw
       have hmk : aB (msk [H1.length] M) (msk [H1.length] H3) := nI (s2.trans s3)
       have hso : StS w0 (msk [H1.length] H3) s' nw := by
        rcases how with ⟨h1,h2⟩ | ho
        · rw [h1,h2]; exact hs.sub hmk
        · exact (ho.st (C := [H1.length]) fun i hi => by simp only [List.mem_singleton] at hi; omega).sub (nI s3)
       have := iq (H3.set H1.length (some (.row (stC nw))),s',nw) ⟨(sM.trans (s2.trans s3)).setR (Nat.le_refl _),by simp only; exact List.getElem?_set_self (aK f3),by simp only; rw [pU (by simp)]; exact hso,hst2,hw⟩
       exact ⟨(by unfold I64; omega),by simpa [stC] using this⟩
   · refine aC aG aCX [1,2,6,7,8,9,10,11] L59_1.eq_1 ?_
     obtain ⟨M,s,sv⟩ := st
     obtain ⟨sM,hk,hs,hn,hw⟩ := Iq
     simp only at sM hk hs hn hw ⊢
     rw [List.drop_length,goW] at hw
     rw [hw] at hg
     have i5 : ¬ (pol[j].length : Int) < pol[j].length := by omega
     have sKM := sH.trans (s1.trans sM)
     obtain ⟨pj,xj,ij,tj,tj',sxj⟩ := (hPK.sub sKM).row hj
     have lxj := NS.len sxj
     have n0 := sKM.2 _ _ k0
     have n0L : ∀ L,(M ++ L)[h.length]? = some (some (.row [v.pl,v.ln,v.pn,v.pe,v.we])) := fun L => aA n0
     obtain ⟨v1,v2,v3⟩ := (hs.sub bM).ones
     simp only [stC] at hk
     have hkL : ∀ L,(M ++ L)[H1.length]? = some (some (.row [sv.pl,sv.le,sv.pe])) := fun L => aA hk
     simp only [go_sem,i5,ij,tj,tj',lxj,n0,n0L,hk,hkL,v1,v2,v3,y1,y2,y3,y4,y5]
     refine aH (aHQ (hRK.sub sKM) (hs.sub bM) dg (hn.ok (by omega)) hn.pat).v ?_
     simp only [go_sem]
     refine ⟨fun e => ⟨(by unfold I64; omega),?_⟩,fun e => ⟨(by unfold I64; omega),?_⟩⟩
     · simp only [if_pos e] at hg
       have := ih (M,qK d s,j) ⟨sKM,hg⟩
       simpa using this
     · simp only [if_neg e] at hg
       have := ih (M,b,bw) ⟨sKM,hg⟩
       simpa using this
 refine aC aG aCW [1,2,6,7,8,9] L59_2.eq_1 ?_
 obtain ⟨H,b,bw⟩ := st
 obtain ⟨sH,hg⟩ := I
 simp only at sH hg ⊢
 rw [List.drop_length,goP] at hg
 have i3 : ¬ (pol.length : Int) < pol.length := by omega
 have m1 := sH.2 _ _ k1
 have m1L : ∀ L,(H ++ L)[h.length + 1]? = some (some (.row [.int .i64 0,.int .i64 0,.int .i64 0])) := fun L => aA m1
 simp only [go_sem,lp,i3,m1,m1L,z1 H _ sH]
 refine ⟨(sK.trans sH).setR (by omega),?_⟩
 rw [lH,hg]; rfl
end Go.Proofs.Ab
namespace Go.Proofs.Ab
open Go Go.Proofs
variable {w0 : World} {h : Heap}
attribute [local irreducible] ACall aT aW aM aQ rvC rdC lp rg dr ex un rv rd'
theorem eqa3 (x y z : Int) : aAk [true,true,true] false (.agg [.int .i64 x,.int .i64 y,.int .i64 z]) (.agg [.int .i64 x,.int .i64 y,.int .i64 z]) = some (.bool true) := by
 have hc : ∀ x : Int,ceq true (.int .i64 x) (.int .i64 x) = some true := fun x => by simp [ceq]
 simp [aAk,dM,hc]
theorem aAQ (d : aN) (v : cA) (pol : dJ) (pv : AV) (hS : DayS w0 h d v) (hW : d.weathers.length ≤ 9223372036854775807) (hP : nW w0 h pv pol) (hl : pol.length ≤ 9223372036854775807) (hr : ∀ r ∈ pol,r.length ≤ 9223372036854775807 ∧ ∀ u ∈ r,u.length ≤ 9223372036854775807) :
 ACall Try.prog w0 14 [.agg (aU v),pv] h fun y H => y = .bool true ∧ aB h H := by
 refine bC aG aIP mf14_b mf14_g (Nat.le_of_ble_eq_true rfl) fun hb ha => aR ?_
 obtain ⟨y1,y2,y3,y4,y5⟩ := hS.ones
 obtain ⟨K,eK⟩ : ∃ K,K = h ++ [some (Blk.row [v.pl,v.ln,v.pn,v.pe,v.we])] := ⟨_,rfl⟩
 have sK : aB h K := eK ▸ aB.refl.app
 have k0 : K[h.length]? = some (some (.row [v.pl,v.ln,v.pn,v.pe,v.we])) := by rw [eK]; simp
 have k0L : ∀ L,(K ++ L)[h.length]? = some (some (.row [v.pl,v.ln,v.pn,v.pe,v.we])) := fun L => aA k0
 simp only [go_sem,mf14,aU,y1,y2,y3,y4,y5]
 rw [← eK]
 refine aH (aHG d v (hS.sub sK) hW).v ?_
 cases e1 : kE d with
 | false =>
  simp only [go_sem]
  refine aH pY.v ?_
  simp only [go_sem]
  exact sK
 | true =>
 simp only [go_sem]
 refine aH (aER (hP.sub sK) hl fun r h1 => (hr r h1).2).v ?_
 cases e2 : qV pol with
 | false =>
  simp only [go_sem]
  refine aH pY.v ?_
  simp only [go_sem]
  exact sK
 | true =>
 have hR := (hS.sub sK).R e1
 have hPK := hP.sub sK
 simp only [qV,mC,Bool.and_eq_true,decide_eq_true_eq,List.all_eq_true] at e2
 have hr2 : ∀ r ∈ pol,r.length < 1000000 ∧ ∀ u ∈ r,u.length < 1000000 ∧ ∀ x ∈ u,x.people.length < 1000000 := fun r h1 => by
  obtain ⟨a,b⟩ := e2.1 r h1
  refine ⟨by omega,fun u hu => ?_⟩
  obtain ⟨b1,b2⟩ := b u hu
  exact ⟨by omega,fun x hx => by have := b1 x hx; omega⟩
 simp only [go_sem,k0,k0L,y1,y2,y3,y4,y5]
 refine aV (ACall.vc (first := []) (args := [_,_]) (aKw d v pol pv hR hPK (by omega) hr2)) ?_
 rintro y H1 ⟨s1,rfl⟩
 obtain ⟨r,er⟩ : ∃ r,r = lF d pol := ⟨_,rfl⟩
 obtain ⟨e,ee⟩ : ∃ e,e = lG d pol := ⟨_,rfl⟩
 rw [← er,← ee]
 obtain ⟨K2,eK2⟩ : ∃ K2,K2 = H1 ++ [some (Blk.row [.int .i64 r.2.2.1,.int .i64 r.2.2.2.1,.int .i64 r.2.2.2.2])] := ⟨_,rfl⟩
 have s2 : aB H1 K2 := eK2 ▸ aB.refl.app
 have sK2 := s1.trans s2
 have m0 := sK2.2 _ _ k0
 have m1 : K2[H1.length]? = some (some (.row [.int .i64 r.2.2.1,.int .i64 r.2.2.2.1,.int .i64 r.2.2.2.2])) := by rw [eK2]; simp
 have m0L : ∀ L,(K2 ++ L)[h.length]? = some (some (.row [v.pl,v.ln,v.pn,v.pe,v.we])) := fun L => aA m0
 have m1L : ∀ L,(K2 ++ L)[H1.length]? = some (some (.row [.int .i64 r.2.2.1,.int .i64 r.2.2.2.1,.int .i64 r.2.2.2.2])) := fun L => aA m1
 simp only [go_sem,oG]
 rw [← eK2]
 have hR2 := hR.sub sK2
 have hP2 := hPK.sub sK2
 simp only [go_sem,m0,m0L,y1,y2,y3,y4,y5]
 refine aH (rday_c d v hR2).v ?_
 cases e4 : eZ d with
 | false =>
  rw [lF,e4,Bool.false_and,if_neg (by simp)] at er
  rw [lG,e4,Bool.false_and,if_neg (by simp)] at ee
  subst er ee
  simp only [go_sem,m1,m1L,eqa3]
  refine aH pY.v ?_
  simp only [go_sem]
  exact sK.trans sK2
 | true =>
 have dg := uJ e4
 simp only [go_sem,m0,m0L,y1,y2,y3,y4,y5]
 refine aH (aDE hR2 hP2 (List.length_pos_iff.1 dg.w0) (by have := dg.s1; omega) (by omega) hr2).v ?_
 cases e5 : oM d pol with
 | false =>
  rw [lF,e5,Bool.and_false,if_neg (by simp)] at er
  rw [lG,e5,Bool.and_false,if_neg (by simp)] at ee
  subst er ee
  simp only [go_sem,m1,m1L,eqa3]
  refine aH pY.v ?_
  simp only [go_sem]
  exact sK.trans sK2
 | true =>
 rw [lF,e4,e5,if_pos (by rfl)] at er
 rw [lG,e4,e5,if_pos (by rfl)] at ee
 subst ee
 simp only [go_sem,m0,m0L,y1,y2,y3,y4,y5]
 refine aV (ACall.vc (first := []) (args := [_,_]) (aEZ d v pol pv hR2 hP2 dg (aBY e5) fun r h1 => (hr2 r h1).2)) ?_
 rintro y H2 ⟨s3,rfl⟩
 rw [← er]
 have f1 := s3.2 _ _ m1
 have f1L : ∀ L,(H2 ++ L)[H1.length]? = some (some (.row [.int .i64 r.2.2.1,.int .i64 r.2.2.2.1,.int .i64 r.2.2.2.2])) := fun L => aA f1
 simp only [go_sem,oG,f1,f1L,eqa3]
 refine aH pY.v ?_
 simp only [go_sem]
 exact (sK.trans (sK2.trans s3)).app
end Go.Proofs.Ab
namespace Go.Proofs.Ab
open Go Go.Proofs
variable {w : World} {h : Heap}
def zC : Rw := .sl (.sl aEx .nil) .nil
theorem aEw {v : Value} (g : nO w aEx v) : ∃ l : List (List aE),NS w h 1 (aEl w h) (inj v) l ∧ l.length ≤ 9223372036854775807 ∧ ∀ u ∈ l,u.length ≤ 9223372036854775807 := by
 obtain ⟨rows,h1,h2,h3⟩ := pJ (h := h) g
 obtain ⟨l,rfl,hl⟩ := kW (f := fun x : AV × List aE => [x.1]) (p := fun x => UnV w h x.1 x.2 ∧ x.2.length ≤ 9223372036854775807) (rows := rows) fun c hc => by
  obtain ⟨cs,rfl,u,_,rfl,g2,rfl⟩ := h3 c hc
  obtain ⟨q,hq⟩ := aDu (h := h) g2
  exact ⟨(inj u,q),rfl,hq⟩
 refine ⟨l.map Prod.snd,⟨_,by simp,h1,fun j x c hx hc => ?_⟩,by simpa using h2,fun u hu => ?_⟩
 · simp only [List.getElem?_map,Option.map_eq_some_iff] at hx hc
   obtain ⟨a,a1,rfl⟩ := hx
   obtain ⟨b,b1,rfl⟩ := hc
   rw [a1] at b1; cases b1
   exact ⟨a.1,rfl,(hl _ (List.mem_of_getElem? a1)).1⟩
 · obtain ⟨a,ha,rfl⟩ := List.mem_map.1 hu
   exact (hl a ha).2
theorem aDK {v : Value} (g : Gd w zC [v]) : ∃ p : dJ,nW w h (inj v) p ∧ p.length ≤ 9223372036854775807 ∧ ∀ r ∈ p,r.length ≤ 9223372036854775807 ∧ ∀ u ∈ r,u.length ≤ 9223372036854775807 := by
 obtain ⟨_,_,e,g,rfl⟩ := g
 cases e
 obtain ⟨rows,h1,h2,h3⟩ := pJ (h := h) g
 obtain ⟨l,rfl,hl⟩ := kW (f := fun x : AV × List (List aE) => [x.1]) (p := fun x => NS w h 1 (aEl w h) x.1 x.2 ∧ x.2.length ≤ 9223372036854775807 ∧ ∀ u ∈ x.2,u.length ≤ 9223372036854775807) (rows := rows) fun c hc => by
  obtain ⟨cs,rfl,u,_,rfl,g2,rfl⟩ := h3 c hc
  obtain ⟨q,hq⟩ := aEw (h := h) g2
  exact ⟨(inj u,q),rfl,hq⟩
 refine ⟨l.map Prod.snd,⟨_,by simp,h1,fun j x c hx hc => ?_⟩,by simpa using h2,fun u hu => ?_⟩
 · simp only [List.getElem?_map,Option.map_eq_some_iff] at hx hc
   obtain ⟨a,a1,rfl⟩ := hx
   obtain ⟨b,b1,rfl⟩ := hc
   rw [a1] at b1; cases b1
   exact ⟨a.1,rfl,(hl _ (List.mem_of_getElem? a1)).1⟩
 · obtain ⟨a,ha,rfl⟩ := List.mem_map.1 hu
   exact (hl a ha).2
end Go.Proofs.Ab

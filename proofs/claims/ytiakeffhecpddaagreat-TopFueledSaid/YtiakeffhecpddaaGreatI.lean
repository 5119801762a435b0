/- The own layer under the proofs of this seat, part I: what calls of the program come to on an abstract heap. No condition. -/
import Derived.Test.YtiakeffhecpddaaGreatH
set_option linter.unusedSimpArgs false
set_option linter.unusedVariables false
namespace Go.Proofs.Ab
open Go Go.Proofs
variable {w0 : World} {h : aA}
attribute [local irreducible] ACall bN dG aQ dA rvC lp rg dr ex un rv
theorem zU {l : List dM} {e : Nat} {w m : Int} (hb : jW l) (hw : WM w m) : aQ Tryz.prog w0 179 [.agg (mQ l e),.int .i64 w,.int .i64 m] h (.int .i64 (eS l e w m)) h := by
 have h1 := iI hb e
 have h2 := iI hb (e + 1)
 obtain ⟨s1,s2⟩ := sQ hb (e := e) hw
 have hw1 := hw.1
 have hw2 := hw.2
 have b1 : I64 (((aT l (e + 1)).w - (aT l e).w) * (m - (aT l e).m)) := by unfold I64; omega
 have b2 : I64 (((aT l (e + 1)).m - (aT l e).m) * (w - (aT l e).w)) := by unfold I64; omega
 have b3 : I64 (eS l e w m) := by unfold I64 eS; omega
 have z3 := bO (n := m - (aT l e).m) (by unfold I64; omega)
 have z4 := bO (n := w - (aT l e).w) (by unfold I64; omega)
 have z7 := bO (n := eS l e w m) b3
 rw [eS] at z7
 rw [mQ]
 refine aF aI aCs aFy aFx (qE rfl) (by simp [AV.bdd,AV.bdds]) fun hb ha => aL ?_
 simp only [go_sem,mf179,z3,z4,z7]
 exact ⟨b1,b2,rfl⟩
def eJ (l : List dM) (e : Nat) (arm : Int) : Int := ((aT l (e + 1)).w - (aT l e).w) * arm - ((aT l (e + 1)).m - (aT l e).m)
theorem pC {l : List dM} (hb : jW l) {e : Nat} {arm : Int} (ha : -1000 ≤ arm ∧ arm ≤ 1000) : (-(20000 * 1000) ≤ ((aT l (e + 1)).w - (aT l e).w) * arm ∧ ((aT l (e + 1)).w - (aT l e).w) * arm ≤ 20000 * 1000) ∧ -60000000 ≤ eJ l e arm ∧ eJ l e arm ≤ 60000000 := by
 have h1 := iI hb e
 have h2 := iI hb (e + 1)
 have := gW (x := (aT l (e + 1)).w - (aT l e).w) (y := arm) (m := 20000) (n := 1000) (by omega) (by omega) ha.1 ha.2
 unfold eJ
 omega
theorem aC6 {l : List dM} {e : Nat} {arm : Int} (hb : jW l) (ha : -1000 ≤ arm ∧ arm ≤ 1000) : aQ Tryz.prog w0 190 [.agg (mQ l e),.int .i64 arm] h (.int .i64 (eJ l e arm)) h := by
 obtain ⟨s1,s2⟩ := pC hb (e := e) ha
 have b1 : I64 (((aT l (e + 1)).w - (aT l e).w) * arm) := by unfold I64; omega
 have z7 := bO (n := eJ l e arm) (by unfold I64; omega)
 rw [eJ] at z7
 rw [mQ]
 refine aF aI aCm aFm aFl (qE rfl) (by simp [AV.bdd,AV.bdds]) fun hb ha => aL ?_
 simp only [go_sem,mf190,z7]
 exact ⟨b1,rfl⟩
theorem aAc {p : aS} {cv sv fv : AV} (hp : dX w0 h p cv sv fv) : ACall Tryz.prog w0 178 [.agg (p.c cv sv fv)] h fun y H => y = .fn (.func 188) [] [.ptr (.own h.length 0)] ∧ H = h ++ [some (.row (p.c cv sv fv))] := by
 refine aR aI aCt aFA aFz (qE rfl) fun hb ha => aL ?_
 have o1 := hp.c.one
 have o2 := hp.s.one
 have o3 := hp.f.one
 simp only [go_sem,mf178,o1.1,o1.2,o2.1,o2.2,o3.1,o3.2]
theorem vC {p : aS} {x : PtD} {cv sv fv iv wv : AV} (hp : dX w0 h p cv sv fv) (hx : PtV w0 h x iv wv) : ACall Tryz.prog w0 189 [.agg (p.c cv sv fv ++ x.c iv wv)] h fun y H => y = .fn (.func 195) [] [.ptr (.own h.length 0)] ∧ H = h ++ [some (.row (p.c cv sv fv ++ x.c iv wv))] := by
 refine aR aI aCn aFo aFn (qE rfl) fun hb ha => aL ?_
 have o1 := hp.c.one
 have o2 := hp.s.one
 have o3 := hp.f.one
 have o4 := hx.i.one
 have o5 := hx.w.one
 simp only [go_sem,mf189,List.cons_append,List.nil_append,o1.1,o1.2,o2.1,o2.2,o3.1,o3.2,o4.1,o4.2,o5.1,o5.2]
def lJ (p : aS) (x : PtD) : Int := cond x.landing p.landing p.takeoff
theorem aGU {p : aS} {x : PtD} {cv sv fv iv wv : AV} (hp : dX w0 h p cv sv fv) (hx : PtV w0 h x iv wv) : aQ Tryz.prog w0 181 [.agg (p.c cv sv fv ++ x.c iv wv)] h (.int .i64 (lJ p x)) h := by
 have o1 := hp.c.one
 have o2 := hp.s.one
 have o3 := hp.f.one
 have o4 := hx.i.one
 have o5 := hx.w.one
 simp only [aS.c,PtD.c,List.cons_append,List.nil_append]
 refine aF aI aCq aFu aFt (qE rfl) (by simp [AV.bdd,AV.bdds]) fun hb ha => aL ?_
 cases e : x.landing
 · simp only [go_sem,mf181,o1.1,o1.2,o2.1,o2.2,o3.1,o3.2,o4.1,o4.2,o5.1,o5.2]
   rw [lJ,e]; rfl
 · simp only [go_sem,mf181,o1.1,o1.2,o2.1,o2.2,o3.1,o3.2,o4.1,o4.2,o5.1,o5.2]
   rw [lJ,e]; rfl
theorem eI.fold {P : Program} {α : Type} {q : Nat} {C : List Nat} {V : α → aA → List AV → Prop} {K : aA → Prop} {J : List α → aA → Prop} (stab : ∀ r H H2,J r H → bY [] H H2 → J r H2)
 (step : ∀ x r H args,J (x :: r) H → V x H args → dG P w0 q args H fun v H3 => bY C H H3 ∧ v = .bool true ∧ J r H3) (fin : ∀ H,J [] H → K H) : ∀ r H,J r H → eI P w0 q C V (· = []) K r [] H
 | [],H,j => fun H2 k => fin H2 (stab _ _ _ j k)
 | x :: r,H,j => fun H2 args O2 hO k _ _ hv => (step x r H2 args (stab _ _ _ j k) hv).mono fun v H3 ⟨k3,e,j3⟩ => ⟨k3,.inl ⟨e,by subst hO; exact eI.fold stab step fin r H3 j3⟩⟩
structure qU (a : fR) : Prop where
 ba : -1000 ≤ a.arm ∧ a.arm ≤ 1000
 bl : -200000 ≤ a.lo ∧ a.lo ≤ 200000
 bh : -200000 ≤ a.hi ∧ a.hi ≤ 200000
def lpD (l : List dM) (e : Nat) (a : fR) : Int := min (eJ l e a.arm * a.lo) (eJ l e a.arm * a.hi)
def dD (l : List dM) (e : Nat) (ps : List fR) : Int := (ps.map (lpD l e)).sum
def kA (p : aS) (x : PtD) (e : Nat) : Int := eS p.cor e p.empty p.moment + dD p.cor e (cD p x)
theorem lp_bd {l : List dM} (hb : jW l) {e : Nat} {a : fR} (ha : qU a) : (-12000000000000 ≤ eJ l e a.arm * a.lo ∧ eJ l e a.arm * a.lo ≤ 12000000000000) ∧ (-12000000000000 ≤ eJ l e a.arm * a.hi ∧ eJ l e a.arm * a.hi ≤ 12000000000000) := by
 have h1 := (pC hb (e := e) ha.ba).2
 have h2 := gW (m := 60000000) (n := 200000) h1.1 h1.2 ha.bl.1 ha.bl.2
 have h3 := gW (m := 60000000) (n := 200000) h1.1 h1.2 ha.bh.1 ha.bh.2
 omega
theorem kD {l : List dM} (hb : jW l) {e : Nat} : ∀ {ps : List fR},(∀ a ∈ ps,qU a) → -12000000000000 * ps.length ≤ dD l e ps ∧ dD l e ps ≤ 12000000000000 * ps.length
 | [],_ => by simp [dD]
 | a :: ps,h => by
  have ih := kD hb (e := e) (ps := ps) fun x hx => h x (by simp [hx])
  have h1 := lp_bd hb (e := e) (h a (by simp))
  have e1 : dD l e (a :: ps) = lpD l e a + dD l e ps := by simp [dD]
  rw [e1,List.length_cons]
  unfold lpD
  omega
structure gJ (p : aS) : Prop where
 e : 0 ≤ p.empty ∧ p.empty ≤ 20000
 m : -20000000 ≤ p.moment ∧ p.moment ≤ 20000000
 n : 3 ≤ p.cor.length ∧ p.cor.length ≤ 12
 c : jW p.cor
 s : ∀ x ∈ p.sta,fX x = true
 f : ∀ x ∈ p.flo,fX x = true
 t : fX p.tank = true
structure PtB (x : PtD) : Prop where
 t : (-200000 ≤ x.tlo ∧ x.tlo ≤ 200000) ∧ -200000 ≤ x.thi ∧ x.thi ≤ 200000
 i : ∀ a ∈ x.items,(0 ≤ a.lo ∧ a.lo ≤ 20000) ∧ 0 ≤ a.hi ∧ a.hi ≤ 20000
 w : ∀ a ∈ x.water,(0 ≤ a.1 ∧ a.1 ≤ 200000) ∧ 0 ≤ a.2 ∧ a.2 ≤ 200000
theorem zK {l : List fG} (h : ∀ x ∈ l,fX x = true) (i : Nat) : -1000 ≤ (l.getD i ⟨0,0⟩).arm ∧ (l.getD i ⟨0,0⟩).arm ≤ 1000 := by
 by_cases hi : i < l.length
 · have := h _ (qG hi)
   rw [aO hi]
   simp only [fX,inB,Bool.and_eq_true,decide_eq_true_eq] at this
   omega
 · rw [List.getD_eq_getElem?_getD,List.getElem?_eq_none (by omega)]; simp
theorem uY {p : aS} {x : PtD} (hp : gJ p) (hx : PtB x) : ∀ a ∈ cD p x,qU a := fun a ha => by
 rw [cD,List.mem_append,List.mem_cons] at ha
 rcases ha with ha | rfl | ha
 · obtain ⟨i,hi,rfl⟩ := List.mem_map.1 ha
   have hi := List.mem_range.1 hi
   have := hx.i _ (qG hi)
   refine ⟨zK hp.s _,?_,?_⟩ <;> · simp only [rK,aO hi]; omega
 · have := hp.t
   simp only [fX,inB,Bool.and_eq_true,decide_eq_true_eq] at this
   have := hx.t
   exact ⟨by simp only; omega,by simp only; omega,by simp only; omega⟩
 · obtain ⟨i,hi,rfl⟩ := List.mem_map.1 ha
   have hi := List.mem_range.1 hi
   have := hx.w _ (qG hi)
   refine ⟨zK hp.f _,?_,?_⟩ <;> · simp only [kQ,aO hi]; omega
theorem pH {p : aS} {x : PtD} (ok : lR p x) : (cD p x).length ≤ 15 := by
 have h1 := ok.n
 have h2 := ok.w
 have h3 := ok.f
 simp [cD]; omega
set_option maxRecDepth 20000 in
theorem aBI {p : aS} {x : PtD} {cv sv fv iv wv : AV} {e : Nat} (hp : dX w0 h p cv sv fv) (hx : PtV w0 h x iv wv) (ok : lR p x) (pb : gJ p) (xb : PtB x) : aQ Tryz.prog w0 182 [.agg (p.c cv sv fv ++ x.c iv wv),.agg (mQ p.cor e)] h (.int .i64 (kA p x e)) h := by
 refine cK (by simp [AV.bdd]) (aR aI aCp aFs aFr (qE rfl) fun hb ha => aL ?_)
 have o1 := hp.c.one
 have o2 := hp.s.one
 have o3 := hp.f.one
 have o4 := hx.i.one
 have o5 := hx.w.one
 have pe := pb.e
 have pm := pb.m
 have ppb := uY pb xb
 have ppl := pH ok
 obtain ⟨R,hR⟩ : ∃ R,R = p.c cv sv fv ++ x.c iv wv := ⟨_,rfl⟩
 have hR' := hR
 simp only [aS.c,PtD.c,List.cons_append,List.nil_append] at hR'
 simp only [go_sem,mf182,List.cons_append,List.nil_append,o1.1,o1.2,o2.1,o2.2,o3.1,o3.2,o4.1,o4.2,o5.1,o5.2]
 refine aC (zU (l := p.cor) (e := e) pb.c ⟨by omega,by omega⟩).v ?_
 simp only [go_sem]
 refine aP (ACall.vc (first := []) (args := [_]) (vC (hp.sub aD.refl.app) (hx.sub aD.refl.app))) ?_
 rintro y H ⟨rfl,rfl⟩
 simp only [go_sem]
 refine oK [3,5,19] ?_
 simp only [go_sem]
 refine tB (fid := 195) (first := []) rfl (.inl rfl) fun hca hcb hps => ?_
 simp only [go_sem]
 obtain ⟨N,eN⟩ : ∃ N,N = h.length := ⟨_,rfl⟩
 rw [← eN]
 obtain ⟨FR,hFR⟩ : ∃ FR : Fr,FR = [(3,AV.ptr (Pl.own (N + 1) 0)),(5,AV.ptr (Pl.own (N + 2) 0)),(19,AV.fn (Fn.func 195) [] [AV.ptr (Pl.own (N + 3) 0)])] := ⟨_,rfl⟩
 obtain ⟨LB,hLB⟩ : ∃ LB : LoopState → Option Code → Blk,LB = Blk.loop 39 FR #[20] (bI (cI 182) [1,1,0,1,0,0]) (bI (cI 182) [1,1,0,1,0,1]) := ⟨_,rfl⟩
 rw [← hFR,← hLB]
 obtain ⟨C,eC⟩ : ∃ C,C = [N + 2,N + 4] := ⟨_,rfl⟩
 obtain ⟨ed,hed⟩ : ∃ ed,ed = mQ p.cor e := ⟨_,rfl⟩
 have hed' := hed
 rw [mQ] at hed'
 rw [← hed',← hR']
 obtain ⟨G0,eG0⟩ : ∃ G0 : aA,G0 = h ++ [some (.row R),some (.row ed),some (.row [.int .i64 (eS p.cor e p.empty p.moment)]),some (.row R),some (LB .ready none)] := ⟨_,rfl⟩
 have hm : aD h (msk C G0) := by
  rw [eG0]
  refine ⟨by rw [bT]; simp,fun i b e => ?_⟩
  have := aM e
  rw [bZ (by rw [eC]; simp; omega)]; exact aB e
 have hG3 : (msk C G0)[N + 3]? = some (some (.row R)) := by
  rw [bZ (by rw [eC]; simp),eG0,eN,qI (by omega)]; simp
 rw [← eG0]
 refine uW (C := C) (by rw [← hR]; exact hG3) (hp.sub hm) (hx.sub hm) ok ?_
 refine eI.fold (J := fun r H => aD h H ∧ H[N + 1]? = some (some (.row ed)) ∧ H[N + 4]? = some (some (LB .ready none)) ∧ (∀ a ∈ r,qU a) ∧ r.length ≤ 15 ∧ ∃ n : Int,H[N + 2]? = some (some (.row [.int .i64 n])) ∧ n + dD p.cor e r = kA p x e) ?_ ?_ ?_ _ _ ?_
 · rintro r H H2 ⟨j1,j2,j3,j4,j5,n,j6,j7⟩ k
   have s2 : aD H H2 := ⟨k.le,fun i b e => k.at_ i b (by simp) e⟩
   exact ⟨j1.trans s2,s2.2 _ _ j2,s2.2 _ _ j3,j4,j5,n,s2.2 _ _ j6,j7⟩
 · rintro a r H args ⟨j1,j2,j3,j4,j5,n,j6,j7⟩ hV
   have hV' : args = [.agg a.c] := hV
   subst hV'
   have f3' := j3
   rw [hLB] at f3'
   have q3 := aM j3
   refine kM (psl := [20]) aI rfl aBs aBr tS.eq_1 R182_0b.eq_1 f3' rfl hps hca hcb fun hb2 ha2 => ?_
   have f3a : ∀ L,(H ++ L)[N + 4]? = _ := fun L => aB (k := L) f3'
   obtain ⟨LY,hLY⟩ : ∃ b,b = Blk.loop 39 [(3,AV.ptr (Pl.own (N + 1) 0)),(5,AV.ptr (Pl.own (N + 2) 0)),(19,AV.fn (Fn.func 195) [] [AV.ptr (Pl.own (N + 3) 0)])] #[20] (bI (cI 182) [1,1,0,1,0,0]) (bI (cI 182) [1,1,0,1,0,1]) LoopState.busy none := ⟨_,rfl⟩
   simp only [go_sem,f3a,hFR]
   rw [← hLY]
   obtain ⟨Y,eY⟩ : ∃ Y,Y = (H ++ [some (Blk.row [AV.int .i64 a.kind,.int .i64 a.idx,.int .i64 a.arm,.int .i64 a.lo,.int .i64 a.hi])]).set (N + 4) (some LY) := ⟨_,rfl⟩
   have lY : Y.length = H.length + 1 := by rw [eY]; simp
   have old : ∀ (i : Nat) b,i ≠ N + 4 → H[i]? = some (some b) → Y[i]? = some (some b) := fun i b hi e => by
    rw [eY,qB (fun e => hi e.symm)]; exact aB e
   have y2 := old _ _ (by omega) j2
   have y6 := old _ _ (by omega) j6
   have y3 : Y[N + 4]? = some (some LY) := by rw [eY,qF (by simp; omega)]
   have y4 : Y[H.length]? = some (some (.row [AV.int .i64 a.kind,.int .i64 a.idx,.int .i64 a.arm,.int .i64 a.lo,.int .i64 a.hi])) := by
    rw [eY,qB (by omega),qI (Nat.le_refl _),Nat.sub_self]; rfl
   have sY : aD h Y := ⟨by have := j1.1; omega,fun i b e => old i b (by have := aM e; omega) (j1.2 _ _ e)⟩
   have kY : bY C H Y := ⟨by omega,fun i b hi e => old i b (fun e => hi (by rw [eC,e]; simp)) e⟩
   rw [← eY]
   have ab := j4 a (by simp)
   have b1 := (pC pb.c (e := e) ab.ba).2
   have b2 := lp_bd pb.c (e := e) ab
   have b3 := kD pb.c (e := e) j4
   have b4 := kD pb.c (e := e) ppb
   have b5 := (sQ pb.c (e := e) (w := p.empty) (m := p.moment) ⟨by omega,by omega⟩)
   have b7 : -100000000000000 ≤ eS p.cor e p.empty p.moment ∧ eS p.cor e p.empty p.moment ≤ 100000000000000 := by unfold eS; omega
   have hc : dD p.cor e (a :: r) = lpD p.cor e a + dD p.cor e r := by simp [dD]
   have hld : kA p x e = eS p.cor e p.empty p.moment + dD p.cor e (cD p x) := rfl
   simp only [List.length_cons] at b3 j5
   rw [hed'] at y2
   simp only [go_sem,y2,y4]
   refine aC (aC6 (l := p.cor) (e := e) pb.c ab.ba).v ?_
   have y7 : ∀ b,(Y.set (N + 2) b)[N + 4]? = some (some LY) := fun b => by rw [qB (by omega)]; exact y3
   have b6 := kD pb.c (e := e) (ps := r) fun x hx => j4 x (by simp [hx])
   unfold lpD at hc
   simp only [go_sem,y6,y4,y7]
   refine ⟨(by unfold I64; omega),(by unfold I64; omega),(by unfold I64; omega),⟨_,_,by rw [hLY]⟩,?_⟩
   refine ⟨(kY.set (.inl (by rw [eC]; simp))).set (.inl (by rw [eC]; simp)),(sY.setR (by omega)).setR (by omega),?_,?_,fun b hb => j4 b (by simp [hb]),by omega,n + min (eJ p.cor e a.arm * a.lo) (eJ p.cor e a.arm * a.hi),?_,?_⟩
   · rw [qB (by omega),qB (by omega),y2,hed']
   · rw [qF (by simp; omega),hLB,hFR]
   · rw [qB (by omega),qF (by omega)]
   · omega
 · rintro H ⟨j1,j2,j3,j4,j5,n,j6,j7⟩
   have f3' := j3
   rw [hLB,hFR] at f3'
   obtain ⟨X,eX⟩ : ∃ X,X = H.set (N + 4) none := ⟨_,rfl⟩
   have x1 : X[N + 2]? = some (some (.row [.int .i64 n])) := by rw [eX,qB (by omega)]; exact j6
   simp only [f3',← eX,hFR]
   simp only [go_sem,x1]
   refine ⟨by rw [eX]; exact j1.setR (by omega),?_⟩
   rw [← j7]; simp [dD]
 · refine ⟨eG0 ▸ aD.refl.app,?_,?_,ppb,ppl,_,?_,rfl⟩
   all_goals
    rw [eG0,eN,qI (by omega)]; simp
def fW (F : fR → Int) (ps : List fR) : Int := (ps.map F).sum
theorem qY {F : fR → Int} {a : fR} {r : List fR} : fW F (a :: r) = F a + fW F r := by simp [fW]
theorem gK {F : fR → Int} {m : Int} (hF : ∀ a,qU a → -m ≤ F a ∧ F a ≤ m) : ∀ {ps : List fR},(∀ a ∈ ps,qU a) → -m * ps.length ≤ fW F ps ∧ fW F ps ≤ m * ps.length
 | [],_ => by simp [fW]
 | a :: ps,h => by
  have ih := gK hF (ps := ps) fun x hx => h x (by simp [hx])
  have h1 := hF a (h a (by simp))
  rw [qY,List.length_cons,Int.natCast_add,Int.mul_add,Int.mul_add]
  omega
def fLo (a : fR) : Int := a.lo
def fHi (a : fR) : Int := a.hi
def fMi (a : fR) : Int := min (a.arm * a.lo) (a.arm * a.hi)
def fMa (a : fR) : Int := max (a.arm * a.lo) (a.arm * a.hi)
theorem aCg {a : fR} (h : qU a) : (-200000000 ≤ a.arm * a.lo ∧ a.arm * a.lo ≤ 200000000) ∧ -200000000 ≤ a.arm * a.hi ∧ a.arm * a.hi ≤ 200000000 := by
 have h1 := gW (m := 1000) (n := 200000) h.ba.1 h.ba.2 h.bl.1 h.bl.2
 have h2 := gW (m := 1000) (n := 200000) h.ba.1 h.ba.2 h.bh.1 h.bh.2
 omega
theorem vK : ∀ a,qU a → (-200000000 ≤ fLo a ∧ fLo a ≤ 200000000) ∧ (-200000000 ≤ fHi a ∧ fHi a ≤ 200000000) ∧ (-200000000 ≤ fMi a ∧ fMi a ≤ 200000000) ∧ (-200000000 ≤ fMa a ∧ fMa a ≤ 200000000) := fun a h => by
 have := aCg h
 have h1 := h.bl
 have h2 := h.bh
 unfold fLo fHi fMi fMa
 omega
def bndC (p : aS) (x : PtD) : List AV := [.int .i64 (p.empty + fW fLo (cD p x)),.int .i64 (p.empty + fW fHi (cD p x)),.int .i64 (p.moment + fW fMi (cD p x)),.int .i64 (p.moment + fW fMa (cD p x))]
set_option maxRecDepth 20000 in
theorem aDy {p : aS} {x : PtD} {cv sv fv iv wv : AV} (hp : dX w0 h p cv sv fv) (hx : PtV w0 h x iv wv) (ok : lR p x) (pb : gJ p) (xb : PtB x) : aQ Tryz.prog w0 180 [.agg (p.c cv sv fv ++ x.c iv wv)] h (.agg (bndC p x)) h := by
 refine cK (by simp [AV.bdd,AV.bdds,bndC]) (aR aI aCr aFw aFv (qE rfl) fun hb ha => aL ?_)
 have o1 := hp.c.one
 have o2 := hp.s.one
 have o3 := hp.f.one
 have o4 := hx.i.one
 have o5 := hx.w.one
 have pe := pb.e
 have pm := pb.m
 have ppb := uY pb xb
 have ppl := pH ok
 obtain ⟨R,hR⟩ : ∃ R,R = p.c cv sv fv ++ x.c iv wv := ⟨_,rfl⟩
 have hR' := hR
 simp only [aS.c,PtD.c,List.cons_append,List.nil_append] at hR'
 simp only [go_sem,mf180,List.cons_append,List.nil_append,o1.1,o1.2,o2.1,o2.2,o3.1,o3.2,o4.1,o4.2,o5.1,o5.2]
 refine aP (ACall.vc (first := []) (args := [_]) (vC (hp.sub aD.refl.app) (hx.sub aD.refl.app))) ?_
 rintro y H ⟨rfl,rfl⟩
 simp only [go_sem]
 refine oK [2,3,27] ?_
 simp only [go_sem]
 refine tB (fid := 195) (first := []) rfl (.inl rfl) fun hca hcb hps => ?_
 simp only [go_sem]
 obtain ⟨N,eN⟩ : ∃ N,N = h.length := ⟨_,rfl⟩
 rw [← eN]
 obtain ⟨FR,hFR⟩ : ∃ FR : Fr,FR = [(2,AV.ptr (Pl.own (N + 1) 0)),(3,AV.ptr (Pl.own (N + 2) 0)),(27,AV.fn (Fn.func 195) [] [AV.ptr (Pl.own (N + 3) 0)])] := ⟨_,rfl⟩
 obtain ⟨LB,hLB⟩ : ∃ LB : LoopState → Option Code → Blk,LB = Blk.loop 78 FR #[28] (bI (cI 180) [1,1,0,1,0,0]) (bI (cI 180) [1,1,0,1,0,1]) := ⟨_,rfl⟩
 rw [← hFR,← hLB]
 obtain ⟨C,eC⟩ : ∃ C,C = [N + 2,N + 4] := ⟨_,rfl⟩
 rw [← hR']
 obtain ⟨zr,hzr⟩ : ∃ zr : List AV,zr = [.int .i64 0,.int .i64 0,.int .i64 0,.int .i64 0] := ⟨_,rfl⟩
 rw [← hzr]
 obtain ⟨G0,eG0⟩ : ∃ G0 : aA,G0 = h ++ [some (.row R),some (.row zr),some (.row [.int .i64 p.empty,.int .i64 p.empty,.int .i64 p.moment,.int .i64 p.moment]),some (.row R),some (LB .ready none)] := ⟨_,rfl⟩
 have hm : aD h (msk C G0) := by
  rw [eG0]
  refine ⟨by rw [bT]; simp,fun i b e => ?_⟩
  have := aM e
  rw [bZ (by rw [eC]; simp; omega)]; exact aB e
 have hG3 : (msk C G0)[N + 3]? = some (some (.row R)) := by
  rw [bZ (by rw [eC]; simp),eG0,eN,qI (by omega)]; simp
 rw [← eG0]
 refine uW (C := C) (by rw [← hR]; exact hG3) (hp.sub hm) (hx.sub hm) ok ?_
 refine eI.fold (J := fun r H => aD h H ∧ H[N + 1]? = some (some (.row zr)) ∧ H[N + 4]? = some (some (LB .ready none)) ∧ (∀ a ∈ r,qU a) ∧ r.length ≤ 15 ∧ ∃ n1 n2 n3 n4 : Int,H[N + 2]? = some (some (.row [.int .i64 n1,.int .i64 n2,.int .i64 n3,.int .i64 n4])) ∧ n1 + fW fLo r = p.empty + fW fLo (cD p x) ∧ n2 + fW fHi r = p.empty + fW fHi (cD p x) ∧ n3 + fW fMi r = p.moment + fW fMi (cD p x) ∧ n4 + fW fMa r = p.moment + fW fMa (cD p x)) ?_ ?_ ?_ _ _ ?_
 · rintro r H H2 ⟨j1,j2,j3,j4,j5,n1,n2,n3,n4,j6,j7⟩ k
   have s2 : aD H H2 := ⟨k.le,fun i b e => k.at_ i b (by simp) e⟩
   exact ⟨j1.trans s2,s2.2 _ _ j2,s2.2 _ _ j3,j4,j5,n1,n2,n3,n4,s2.2 _ _ j6,j7⟩
 · rintro a r H args ⟨j1,j2,j3,j4,j5,n1,n2,n3,n4,j6,k1,k2,k3,k4⟩ hV
   have hV' : args = [.agg a.c] := hV
   subst hV'
   have f3' := j3
   rw [hLB] at f3'
   have q3 := aM j3
   refine kM (psl := [28]) aI rfl aBu aBt tT.eq_1 R180_0b.eq_1 f3' rfl hps hca hcb fun hb2 ha2 => ?_
   have f3a : ∀ L,(H ++ L)[N + 4]? = _ := fun L => aB (k := L) f3'
   obtain ⟨LY,hLY⟩ : ∃ b,b = Blk.loop 78 [(2,AV.ptr (Pl.own (N + 1) 0)),(3,AV.ptr (Pl.own (N + 2) 0)),(27,AV.fn (Fn.func 195) [] [AV.ptr (Pl.own (N + 3) 0)])] #[28] (bI (cI 180) [1,1,0,1,0,0]) (bI (cI 180) [1,1,0,1,0,1]) LoopState.busy none := ⟨_,rfl⟩
   simp only [go_sem,f3a,hFR]
   rw [← hLY]
   obtain ⟨Y,eY⟩ : ∃ Y,Y = (H ++ [some (Blk.row [AV.int .i64 a.kind,.int .i64 a.idx,.int .i64 a.arm,.int .i64 a.lo,.int .i64 a.hi])]).set (N + 4) (some LY) := ⟨_,rfl⟩
   have lY : Y.length = H.length + 1 := by rw [eY]; simp
   have old : ∀ (i : Nat) b,i ≠ N + 4 → H[i]? = some (some b) → Y[i]? = some (some b) := fun i b hi e => by
    rw [eY,qB (fun e => hi e.symm)]; exact aB e
   have y2 := old _ _ (by omega) j2
   have y6 := old _ _ (by omega) j6
   have y3 : Y[N + 4]? = some (some LY) := by rw [eY,qF (by simp; omega)]
   have y4 : Y[H.length]? = some (some (.row [AV.int .i64 a.kind,.int .i64 a.idx,.int .i64 a.arm,.int .i64 a.lo,.int .i64 a.hi])) := by
    rw [eY,qB (by omega),qI (Nat.le_refl _),Nat.sub_self]; rfl
   have y4' : ∀ b,(Y.set (N + 2) b)[H.length]? = some (some (.row [AV.int .i64 a.kind,.int .i64 a.idx,.int .i64 a.arm,.int .i64 a.lo,.int .i64 a.hi])) := fun b => by rw [qB (by omega)]; exact y4
   have y5 : ∀ b,(Y.set (N + 2) b)[N + 2]? = some b := fun b => qF (by omega)
   have sY : aD h Y := ⟨by have := j1.1; omega,fun i b e => old i b (by have := aM e; omega) (j1.2 _ _ e)⟩
   have kY : bY C H Y := ⟨by omega,fun i b hi e => old i b (fun e => hi (by rw [eC,e]; simp)) e⟩
   rw [← eY]
   have ab := j4 a (by simp)
   have b2 := aCg ab
   have bl := ab.bl
   have bh := ab.bh
   have jr : ∀ x ∈ r,qU x := fun x hx => j4 x (by simp [hx])
   have cl := fun F => qY (F := F) (a := a) (r := r)
   simp only [List.length_cons] at j5
   have s1 := gK (fun a h => (vK a h).1) ppb
   have s2 := gK (fun a h => (vK a h).2.1) ppb
   have s3 := gK (fun a h => (vK a h).2.2.1) ppb
   have s4 := gK (fun a h => (vK a h).2.2.2) ppb
   have t1 := gK (fun a h => (vK a h).1) jr
   have t2 := gK (fun a h => (vK a h).2.1) jr
   have t3 := gK (fun a h => (vK a h).2.2.1) jr
   have t4 := gK (fun a h => (vK a h).2.2.2) jr
   rw [cl] at k1 k2 k3 k4
   have z1 : fLo a = a.lo := rfl
   have z2 : fHi a = a.hi := rfl
   have z3 : fMi a = min (a.arm * a.lo) (a.arm * a.hi) := rfl
   have z4 : fMa a = max (a.arm * a.lo) (a.arm * a.hi) := rfl
   have y7 : ∀ b,(Y.set (N + 2) b)[N + 4]? = some (some LY) := fun b => by rw [qB (by omega)]; exact y3
   simp only [go_sem,y6,y4,y5,y4',y7,List.set_set]
   refine ⟨(by unfold I64; omega),(by unfold I64; omega),(by unfold I64; omega),(by unfold I64; omega),(by unfold I64; omega),(by unfold I64; omega),⟨_,_,by rw [hLY]⟩,?_⟩
   refine ⟨(kY.set (.inl (by rw [eC]; simp))).set (.inl (by rw [eC]; simp)),(sY.setR (by omega)).setR (by omega),?_,?_,jr,by omega,n1 + a.lo,n2 + a.hi,n3 + min (a.arm * a.lo) (a.arm * a.hi),n4 + max (a.arm * a.lo) (a.arm * a.hi),?_,by omega,by omega,by omega,by omega⟩
   · rw [qB (by omega),qB (by omega),y2]
   · rw [qF (by simp; omega),hLB,hFR]
   · rw [qB (by omega),qF (by omega)]
 · rintro H ⟨j1,j2,j3,j4,j5,n1,n2,n3,n4,j6,k1,k2,k3,k4⟩
   have f3' := j3
   rw [hLB,hFR] at f3'
   obtain ⟨X,eX⟩ : ∃ X,X = H.set (N + 4) none := ⟨_,rfl⟩
   have x1 : X[N + 2]? = some (some (.row [.int .i64 n1,.int .i64 n2,.int .i64 n3,.int .i64 n4])) := by rw [eX,qB (by omega)]; exact j6
   have x2 : X[N + 1]? = some (some (.row zr)) := by rw [eX,qB (by omega)]; exact j2
   rw [hzr] at x2
   simp only [f3',← eX,hFR]
   have x3 : ∀ b,(X.set (N + 1) b)[N + 1]? = some b := fun b => qF (aM x2)
   simp only [go_sem,x1,x2,x3]
   refine ⟨by rw [eX]; exact (j1.setR (by omega)).setR (by omega),?_⟩
   have sn : ∀ F,fW F [] = 0 := fun F => rfl
   rw [sn,Int.add_zero] at k1 k2 k3 k4
   rw [bndC,k1,k2,k3,k4]
 · refine ⟨eG0 ▸ aD.refl.app,?_,?_,ppb,ppl,_,_,_,_,?_,rfl,rfl,rfl,rfl⟩
   all_goals
    rw [eG0,eN,qI (by omega)]; simp
def jX (w0 : World) (h : aA) (v : AV) (l : List Bool) : Prop := SlZ w0 h 1 v (l.map fun b => [AV.bool b])
theorem mU {H : aA} {b : Nat} {l : List Bool} {f : Bool} (hb : H[b]? = some (some (.row (l.map AV.bool)))) : jX w0 H (.sl (.own b 0) l.length 1 f) l := by
 refine ⟨.inr ⟨.own b 0,f,⟨1,by simp,rfl⟩,aM hb,fun j c hc => ?_⟩,fun e => ?_⟩
 · rw [List.getElem?_map,qD] at hc
   obtain ⟨x,hx,rfl⟩ := hc
   have hj := (List.getElem?_eq_some_iff.1 hx).1
   simp only [Pl.add,Nat.mul_one,Nat.zero_add,rdn,hb,List.length_map]
   rw [if_pos (by omega)]
   congr 1
   refine List.ext_getElem? fun i => ?_
   cases i with
   | zero => simp [hx]
   | succ i => simp; omega
 · have : l = [] := by simpa using e
   subst this
   simp [fY,gO,rdn,hb]
theorem full_c {p : aS} {x : PtD} {cv sv fv iv wv : AV} (hp : dX w0 h p cv sv fv) (hx : PtV w0 h x iv wv) : ACall Tryz.prog w0 157 [.agg (p.c cv sv fv ++ x.c iv wv)] h fun y H => aD h H ∧ jX w0 H y [decide (x.thi > p.tank.most)] := by
 have o1 := hp.c.one
 have o2 := hp.s.one
 have o3 := hp.f.one
 have o4 := hx.i.one
 have o5 := hx.w.one
 refine aR aI aCG aF0 aFZ (qE rfl) fun hb ha => aL ?_
 simp only [go_sem,mf157,List.cons_append,List.nil_append,o1.1,o1.2,o2.1,o2.2,o3.1,o3.2,o4.1,o4.2,o5.1,o5.2]
 exact ⟨aD.refl.app,mU (l := [_]) (by simp)⟩
def mZ (p : aS) (x : PtD) : Bool := x.landing && decide (x.tlo < p.reserve)
theorem aBG {p : aS} {x : PtD} {cv sv fv iv wv : AV} (hp : dX w0 h p cv sv fv) (hx : PtV w0 h x iv wv) : ACall Tryz.prog w0 161 [.agg (p.c cv sv fv ++ x.c iv wv)] h fun y H => aD h H ∧ jX w0 H y [mZ p x] := by
 have o1 := hp.c.one
 have o2 := hp.s.one
 have o3 := hp.f.one
 have o4 := hx.i.one
 have o5 := hx.w.one
 refine aR aI aCC aFS aFR (qE rfl) fun hb ha => aL ?_
 cases e : x.landing
 · simp only [go_sem,mf161,e,List.cons_append,List.nil_append,o1.1,o1.2,o2.1,o2.2,o3.1,o3.2,o4.1,o4.2,o5.1,o5.2]
   exact ⟨aD.refl.app,mU (l := [_]) (by simp [mZ,e])⟩
 · simp only [go_sem,mf161,e,List.cons_append,List.nil_append,o1.1,o1.2,o2.1,o2.2,o3.1,o3.2,o4.1,o4.2,o5.1,o5.2]
   exact ⟨aD.refl.app,mU (l := [_]) (by simp [mZ,e])⟩
def pQ (p : aS) (x : PtD) : Bool := decide (p.empty + fW fHi (cD p x) > lJ p x)
theorem aGY {p : aS} {x : PtD} {cv sv fv iv wv : AV} (hp : dX w0 h p cv sv fv) (hx : PtV w0 h x iv wv) (ok : lR p x) (pb : gJ p) (xb : PtB x) : ACall Tryz.prog w0 159 [.agg (p.c cv sv fv ++ x.c iv wv)] h fun y H => aD h H ∧ jX w0 H y [pQ p x] := by
 have o1 := hp.c.one
 have o2 := hp.s.one
 have o3 := hp.f.one
 have o4 := hx.i.one
 have o5 := hx.w.one
 refine aR aI aCE aFW aFV (qE rfl) fun hb ha => aL ?_
 simp only [go_sem,mf159,List.cons_append,List.nil_append,o1.1,o1.2,o2.1,o2.2,o3.1,o3.2,o4.1,o4.2,o5.1,o5.2]
 refine rU aI [0,4,1,2,3,5,6,7,8] [o_ 3 (.load (.t 1) (some 15)),o_ 7 (.load (.t 1) (some 15)),.call (some 4) none (f_ 180) [(.t 3)]] [([(1,o_ 7 (.load (.t 1) (some 15)))],[o_ 5 (.fld (.t 4) 0 (some 2)),o_ 6 (.fld (.t 5) 1 none),.call (some 8) none (f_ 181) [(.t 7)],o_ 9 (.bin .gtr (.t 6) (.t 8)),o_ 10 (.bslice 1 [(.bool false)] 1 [(0,1,(.t 9))]),o_ 2 (m_ 10)])] rfl rfl (by kernel_rfl) ?_
 simp only [go_sem]
 refine aC (aDy (hp.sub aD.refl.app) (hx.sub aD.refl.app) ok pb xb).v ?_
 simp only [go_sem,bndC]
 refine aC (aGU (hp.sub aD.refl.app) (hx.sub aD.refl.app)).v ?_
 simp only [go_sem]
 exact ⟨aD.refl.app,mU (l := [_]) (by simp [pQ])⟩
theorem Gro.boo {K H : aA} {n : Nat} {ov : AV} {l : List Bool} (g : Gro K H 1 n ov (l.map AV.bool)) (hn : n = l.length) : jX w0 H ov l := by
 rcases g.own with ⟨h1,h2,h3⟩ | ⟨io,h1,h2,h3,h4,h5⟩
 · have : l = [] := by simpa using h3
   subst this
   subst h2
   exact ⟨.inl ⟨rfl,rfl⟩,fun _ => rfl⟩
 · subst h3; subst hn
   exact mU h4
def aAE (p : aS) (x : PtD) (i : Nat) : Bool := decide ((x.water.getD i (0,0)).2 > (p.flo.getD i ⟨0,0⟩).most)
def wetD (p : aS) (x : PtD) : List Bool := (List.range x.water.length).map (aAE p x)
theorem wet_c {p : aS} {x : PtD} {cv sv fv iv wv : AV} (hp : dX w0 h p cv sv fv) (hx : PtV w0 h x iv wv) (ok : lR p x) : ACall Tryz.prog w0 158 [.agg (p.c cv sv fv ++ x.c iv wv)] h fun y H => aD h H ∧ jX w0 H y (wetD p x) := by
 have o1 := hp.c.one
 have o2 := hp.s.one
 have o3 := hp.f.one
 have o4 := hx.i.one
 have o5 := hx.w.one
 refine aR aI aCF aFY aFX (qE rfl) fun hb ha => aL ?_
 have lw : eH wv = some (.int .i64 x.water.length) := by have := hx.w.use.1; rwa [List.length_map] at this
 have ow := ok.w
 have of := ok.f
 obtain ⟨R,hR⟩ : ∃ R,R = p.c cv sv fv ++ x.c iv wv := ⟨_,rfl⟩
 simp only [aS.c,PtD.c,List.cons_append,List.nil_append] at hR
 simp only [go_sem,mf158,List.cons_append,List.nil_append,o1.1,o1.2,o2.1,o2.2,o3.1,o3.2,o4.1,o4.2,o5.1,o5.2,lw]
 rw [← hR]
 obtain ⟨B,eB⟩ : ∃ B,B = h ++ [some (Blk.row R)] := ⟨_,rfl⟩
 have sB : aD h B := by rw [eB]; exact aD.refl.app
 have bB : B[h.length]? = some (some (.row R)) := by rw [eB]; simp
 rw [← eB]
 refine cG (S := aA × AV) (fun j s => [(1,.ptr (.own h.length 0)),(3,s.2),(8,wv),(9,.int .i64 x.water.length),(10,.int .i64 j)]) (fun _ s => s.1) (fun j s => Gro B s.1 1 j s.2 (((List.range j).map (aAE p x)).map AV.bool)) x.water.length (B,.nilS) (Gro.nil aD.refl) rfl rfl ?_ ?_
 · rintro j ⟨H,ov⟩ hj g ih
   simp only at g ih ⊢
   refine aH aI wF [1,3,8,9,10] L158_0.eq_1 ?_
   have e1 : (j : Int) < x.water.length := by omega
   have sH := sB.trans g.sub
   have bH := g.sub.2 _ _ bB
   have bHL : ∀ L,(H ++ L : aA)[h.length]? = _ := fun L => aB (k := L) bH
   rw [hR] at bHL
   obtain ⟨_,q3,ix,row,_⟩ := (hx.sub sH).w.use
   rw [List.length_map] at ix
   obtain ⟨_,q4,ix4,row4,_⟩ := (hp.sub sH).f.use
   rw [List.length_map] at ix4
   have r1' := dO (hJ row hj)
   have hjf : j < p.flo.length := by omega
   have r4 := hJ row4 hjf
   have g4 : ∀ L,rd w0 (H ++ L) ((q4.add (j * 2)).add 1) = some (.int .i64 p.flo[j].most) := fun L => cV (r4 L) (o := 1) rfl
   obtain ⟨b,hbv⟩ : ∃ b : Bool,b = decide (p.flo[j].most < x.water[j].2) := ⟨_,rfl⟩
   have pe : aAE p x j = b := by rw [aAE,aO hj,aO hjf,hbv]
   have gro := (g.app (L := [some (Blk.row (spC x.water[j])),some (Blk.row [.bool b])])).more (w0 := w0) (b := 1) (k := H.length + 1) (x := [.bool b]) (f := true) (by simp) rfl rfl (by omega) (by omega)
   obtain ⟨G,ap,g2⟩ := gro
   have gl : (H ++ [some (Blk.row (spC x.water[j])),some (Blk.row [.bool b])]).length = H.length + 2 := by simp
   rw [gl] at ap g2
   simp only [spC] at ap
   simp only [go_sem,e1,ix j hj,r1',bHL,ix4 j hjf,g4,← hbv,ap]
   refine ⟨(by unfold I64; omega),ih (G,_) ?_⟩
   rw [List.range_succ,List.map_append,List.map_append]
   rw [show ((List.map (aAE p x) [j]).map AV.bool) = [.bool b] by simp [pe]]
   exact g2
 · rintro ⟨H,ov⟩ g
   simp only at g ⊢
   refine aH aI wF [1,3,8,9,10] L158_0.eq_1 ?_
   have e1 : ¬ (x.water.length : Int) < x.water.length := by omega
   simp only [go_sem,e1]
   exact ⟨sB.trans g.sub,g.boo (by simp)⟩
def jN (M : List (Int × Int)) : List (AV × AV) := M.map fun x => (.int .i64 x.1,.int .i64 x.2)
def nH : List (Int × Int) → Int → Option Int
 | [],_ => none
 | m :: M,k => if m.1 = k then some m.2 else nH M k
def jM : List (Int × Int) → Int → Int → List (Int × Int)
 | [],k,v => [(k,v)]
 | m :: M,k,v => if m.1 = k then (k,v) :: M else m :: jM M k v
theorem vE (k n v : Int) : ∀ M,nH (jM M n v) k = if k = n then some v else nH M k
 | [] => by
  simp only [jM,nH]
  by_cases e : n = k
  · rw [if_pos e,if_pos e.symm]
  · rw [if_neg e,if_neg (fun q => e q.symm)]
 | m :: M => by
  have ih := vE k n v M
  simp only [jM]
  by_cases e : m.1 = n
  · rw [if_pos e]; simp only [nH]
    by_cases e2 : k = n
    · subst e2; simp
    · rw [if_neg (fun q => e2 q.symm),if_neg e2,if_neg (by rw [e]; exact fun q => e2 q.symm)]
  · rw [if_neg e]; simp only [nH,ih]
    by_cases e3 : m.1 = k
    · rw [if_pos e3,if_neg (by rw [← e3]; exact e),if_pos e3]
    · rw [if_neg e3,if_neg e3]
theorem yD (k v : Int) : ∀ (M : List (Int × Int)) (a : Nat),(gN (false,[true]) (.int .i64 k) (jN M) a = some none ∧ nH M k = none ∧ jM M k v = M ++ [(k,v)]) ∨
 ∃ j y,gN (false,[true]) (.int .i64 k) (jN M) a = some (some (a + j,.int .i64 y)) ∧ nH M k = some y ∧ (jN M).set j (.int .i64 k,.int .i64 v) = jN (jM M k v)
 | [],a => .inl ⟨rfl,rfl,rfl⟩
 | m :: M,a => by
  by_cases e : m.1 = k
  · refine .inr ⟨0,m.2,?_,?_,?_⟩
    · simp [jN,gN,keq,cU,ceq,e]
    · simp [nH,e]
    · simp [jN,jM,e]
  · have e1 : gN (false,[true]) (.int .i64 k) (jN (m :: M)) a = gN (false,[true]) (.int .i64 k) (jN M) (a + 1) := by
     have e0 : (k == m.1) = false := by simpa using fun x => e x.symm
     simp [jN,gN,keq,cU,ceq,e0]
    rcases yD k v M (a + 1) with ⟨h1,h2,h3⟩ | ⟨j,y,h1,h2,h3⟩
    · exact .inl ⟨by rw [e1,h1],by simp [nH,e,h2],by simp [jM,e,h3]⟩
    · refine .inr ⟨j + 1,y,by rw [e1,h1,show a + 1 + j = a + (j + 1) by omega],by simp [nH,e,h2],?_⟩
      rw [jM,if_neg e]
      simp only [jN,List.map_cons,List.set_cons_succ] at h3 ⊢
      rw [h3]
theorem aC8 {i : Nat} {M : List (Int × Int)} (hi : h[i]? = some (some (.map (jN M)))) (k : Int) : zV h (false,[true]) (.int .i64 0) false (.map i) (.int .i64 k) = some (.int .i64 ((nH M k).getD 0)) := by
 simp only [zV,hi]
 rw [if_neg (by simp [keq,cU,ceq])]
 rcases yD k 0 M 0 with ⟨h1,h2,_⟩ | ⟨j,y,h1,h2,_⟩
 · rw [h1,h2]; rfl
 · rw [h1,h2]; rfl
theorem mput_S {i : Nat} {M : List (Int × Int)} (hi : h[i]? = some (some (.map (jN M)))) (k v : Int) : aCh h (false,[true]) (.map i) (.int .i64 k) (.int .i64 v) = some (.undef,h.set i (some (.map (jN (jM M k v))))) := by
 simp only [aCh,hi]
 rw [if_neg (by simp [keq,cU,ceq])]
 rcases yD k v M 0 with ⟨h1,_,h3⟩ | ⟨j,y,h1,_,h2⟩
 · rw [h1,h3]; simp [jN]
 · rw [h1]; simp only [Nat.zero_add,h2]
def atS : List dF → Int → Int
 | [],_ => 0
 | a :: l,k => (if a.st = k then a.hi else 0) + atS l k
theorem aDA {l : List dF} {a : dF} {k : Int} : atS (l ++ [a]) k = atS l k + if a.st = k then a.hi else 0 := by
 induction l with
 | nil => simp [atS]
 | cons b l ih => simp only [List.cons_append,atS,ih]; omega
theorem atS_bd {l : List dF} {k : Int} (h : ∀ a ∈ l,0 ≤ a.hi ∧ a.hi ≤ 20000) : 0 ≤ atS l k ∧ atS l k ≤ 20000 * l.length := by
 induction l with
 | nil => simp [atS]
 | cons b l ih =>
  have := ih fun a ha => h a (by simp [ha])
  have := h b (by simp)
  simp only [atS,List.length_cons]
  split <;> omega
def rD (p : aS) (x : PtD) (i : Nat) : Bool := decide (atS x.items i > (p.sta.getD i ⟨0,0⟩).most)
def zT (p : aS) (x : PtD) : List Bool := (List.range p.sta.length).map (rD p x)
theorem over_c {p : aS} {x : PtD} {cv sv fv iv wv : AV} (hp : dX w0 h p cv sv fv) (hx : PtV w0 h x iv wv) (ok : lR p x) (xb : PtB x) (hs : p.sta.length ≤ 1000) : ACall Tryz.prog w0 156 [.agg (p.c cv sv fv ++ x.c iv wv)] h fun y H => aD h H ∧ jX w0 H y (zT p x) := by
 have o1 := hp.c.one
 have o2 := hp.s.one
 have o3 := hp.f.one
 have o4 := hx.i.one
 have o5 := hx.w.one
 refine aR aI aCH aF2 aF1 (qE rfl) fun hb ha => aL ?_
 have li : eH iv = some (.int .i64 x.items.length) := by have := hx.i.use.1; rwa [List.length_map] at this
 have ls : eH sv = some (.int .i64 p.sta.length) := by have := hp.s.use.1; rwa [List.length_map] at this
 have on := ok.n
 obtain ⟨R,hR⟩ : ∃ R,R = p.c cv sv fv ++ x.c iv wv := ⟨_,rfl⟩
 simp only [aS.c,PtD.c,List.cons_append,List.nil_append] at hR
 simp only [go_sem,mf156,List.cons_append,List.nil_append,o1.1,o1.2,o2.1,o2.2,o3.1,o3.2,o4.1,o4.2,o5.1,o5.2,li]
 rw [← hR]
 obtain ⟨B,eB⟩ : ∃ B,B = h ++ [some (Blk.row R),some (Blk.map [])] := ⟨_,rfl⟩
 have sB : aD h B := by rw [eB]; exact aD.refl.app
 have bB : B[h.length]? = some (some (.row R)) := by rw [eB]; simp
 have mB : B[h.length + 1]? = some (some (.map (jN []))) := by rw [eB]; simp [jN]
 rw [← eB]
 refine cG (S := aA × List (Int × Int)) (fun j _ => [(1,.ptr (.own h.length 0)),(3,.map (h.length + 1)),(12,iv),(13,.int .i64 x.items.length),(14,.int .i64 j)]) (fun _ s => s.1) (fun j s => bY [h.length + 1] B s.1 ∧ s.1[h.length + 1]? = some (some (.map (jN s.2))) ∧ ∀ k,(nH s.2 k).getD 0 = atS (x.items.take j) k) x.items.length (B,[]) ⟨bY.refl,mB,fun k => rfl⟩ rfl rfl ?_ ?_
 · rintro j ⟨H,M⟩ hj ⟨kH,mH,gM⟩ ih
   simp only at kH mH gM ih ⊢
   refine aH aI wH [1,3,12,13,14] L156_0.eq_1 ?_
   have e1 : (j : Int) < x.items.length := by omega
   have sH : aD h H := ⟨by have := sB.1; have := kH.le; omega,fun i b e => kH.at_ i b (by have := aM e; simp; omega) (sB.2 _ _ e)⟩
   obtain ⟨_,q3,ix,row,_⟩ := (hx.sub sH).i.use
   rw [List.length_map] at ix
   have r1' := dO (hJ row hj)
   obtain ⟨y,hy⟩ : ∃ y,y = x.items[j] := ⟨_,rfl⟩
   rw [← hy] at r1'
   have yb := xb.i y (hy ▸ qG hj)
   have tb := atS_bd (l := x.items.take j) (k := y.st) fun a ha => (xb.i a (List.mem_of_mem_take ha)).2
   rw [List.length_take] at tb
   have mHL : ∀ L,(H ++ L : aA)[h.length + 1]? = _ := fun L => aB (k := L) mH
   have lk := fun L => aC8 (mHL L) y.st
   have mp := fun L => mput_S (mHL L) y.st (atS (x.items.take j) y.st + y.hi)
   simp only [gM] at lk
   simp only [go_sem,e1,ix j hj,r1',lk,mp]
   refine ⟨(by unfold I64; omega),(by unfold I64; omega),ih (_,jM M y.st (atS (x.items.take j) y.st + y.hi)) ⟨?_,?_,fun k => ?_⟩⟩
   · exact kH.app.set (.inl (by simp))
   · exact qF (by have := aM mH; simp; omega)
   · have tk : x.items.take (j + 1) = x.items.take j ++ [y] := by rw [List.take_succ_eq_append_getElem hj,hy]
     simp only
     rw [vE,tk,aDA]
     by_cases q : k = y.st
     · subst q; simp
     · rw [if_neg q,if_neg (fun w => q w.symm),gM]; omega
 · rintro ⟨H,M⟩ ⟨kH,mH,gM⟩
   simp only at kH mH gM ⊢
   refine aH aI wH [1,3,12,13,14] L156_0.eq_1 ?_
   have e1 : ¬ (x.items.length : Int) < x.items.length := by omega
   have sH : aD h H := ⟨by have := sB.1; have := kH.le; omega,fun i b e => kH.at_ i b (by have := aM e; simp; omega) (sB.2 _ _ e)⟩
   have bH := kH.at_ _ _ (by simp) bB
   rw [hR] at bH
   rw [List.take_length] at gM
   simp only [go_sem,e1,bH,ls]
   refine cG (S := aA × AV) (fun j s => [(3,.map (h.length + 1)),(6,s.2),(30,sv),(31,.int .i64 p.sta.length),(32,.int .i64 j)]) (fun _ s => s.1) (fun j s => Gro H s.1 1 j s.2 (((List.range j).map (rD p x)).map AV.bool)) p.sta.length (H,.nilS) (Gro.nil aD.refl) rfl rfl ?_ ?_
   · rintro j ⟨G,ov⟩ hj g ih
     simp only at g ih ⊢
     refine aH aI wG [3,6,30,31,32] L156_1.eq_1 ?_
     have e1 : (j : Int) < p.sta.length := by omega
     have sG := sH.trans g.sub
     obtain ⟨_,q4,ix4,row4,_⟩ := (hp.sub sG).s.use
     rw [List.length_map] at ix4
     have r1' := dO (hJ row4 hj)
     have mG := g.sub.2 _ _ mH
     have mGL : ∀ L,(G ++ L : aA)[h.length + 1]? = _ := fun L => aB (k := L) mG
     have lk := fun L => aC8 (mGL L) (j : Int)
     simp only [gM] at lk
     obtain ⟨b,hbv⟩ : ∃ b : Bool,b = decide (p.sta[j].most < atS x.items j) := ⟨_,rfl⟩
     have pe : rD p x j = b := by rw [rD,aO hj,hbv]
     obtain ⟨G2,ap,g2⟩ := (g.app (L := [some (Blk.row p.sta[j].c),some (Blk.row [.bool b])])).more (w0 := w0) (b := 1) (k := G.length + 1) (x := [.bool b]) (f := true) (by simp) rfl rfl (by omega) (by omega)
     have gl : (G ++ [some (Blk.row p.sta[j].c),some (Blk.row [.bool b])]).length = G.length + 2 := by simp
     rw [gl] at ap g2
     simp only [fG.c] at ap
     simp only [go_sem,e1,ix4 j hj,r1',lk,← hbv,ap]
     refine ⟨(by unfold I64; omega),ih (G2,_) ?_⟩
     rw [List.range_succ,List.map_append,List.map_append]
     rw [show ((List.map (rD p x) [j]).map AV.bool) = [.bool b] by simp [pe]]
     exact g2
   · rintro ⟨G,ov⟩ g
     simp only at g ⊢
     refine aH aI wG [3,6,30,31,32] L156_1.eq_1 ?_
     have e1 : ¬ (p.sta.length : Int) < p.sta.length := by omega
     simp only [go_sem,e1]
     exact ⟨sH.trans g.sub,g.boo (by simp)⟩
set_option maxRecDepth 20000 in
theorem rS {B : aA} {q b : Nat} {p : aS} {cv sv fv : AV} {J : List Nat → aA → Prop} {Kx : aA → Prop} (hp : B[b]? = some (some (.row (p.c cv sv fv)))) (hv : dX w0 B p cv sv fv) (hn : 0 < p.cor.length ∧ p.cor.length ≤ 1000) (hb : jW p.cor)
 (jb : ∀ r H,J r H → aD B H) (ja : ∀ r H L,J r H → J r (H ++ L)) (step : ∀ e r H,e < p.cor.length → J (e :: r) H → dG Tryz.prog w0 q [.agg (mQ p.cor e)] H fun v H3 => (v = .bool true ∧ J r H3) ∨ (v = .bool false ∧ Kx H3)) (j0 : J (List.range p.cor.length) h) :
 ACall Tryz.prog w0 188 [.yld q,.ptr (.own b 0)] h fun _ H => J [] H ∨ Kx H := by
 refine aR aI aCo aFq aFp (qE rfl) fun hb2 ha => aL ?_
 have bx := (jb _ _ j0).2 _ _ hp
 have lc : eH cv = some (.int .i64 p.cor.length) := by have := hv.c.use.1; rwa [List.length_map] at this
 simp only [aS.c] at bx hp
 rw [List.append_nil]
 simp only [go_sem,mf188,bx,lc]
 refine cG (S := aA) (fun j _ => [(0,.yld q),(1,.ptr (.own b 0)),(8,cv),(9,.int .i64 p.cor.length),(10,.int .i64 j)]) (fun _ s => s) (fun j s => J ((List.range p.cor.length).drop j) s) p.cor.length h j0 rfl rfl ?_ ?_
 · rintro j H hj iH ih
   refine aH aI wB [0,1,8,9,10] L188_0.eq_1 ?_
   have e1 : (j : Int) < p.cor.length := by omega
   have sm := jb _ _ iH
   have bxH := sm.2 _ _ hp
   obtain ⟨_,q3,ix,row,_⟩ := (hv.sub sm).c.use
   rw [List.length_map] at ix
   have r1 := hJ row hj
   obtain ⟨k1,hk1⟩ : ∃ k,k = (j + 1) % p.cor.length := ⟨_,rfl⟩
   have hk : k1 < p.cor.length := hk1 ▸ Nat.mod_lt _ hn.1
   have r2 := hJ row hk
   have n0 : ¬ (p.cor.length : Int) = 0 := by omega
   have em : ((j : Int) + 1).tmod p.cor.length = ((k1 : Nat) : Int) := by rw [hk1]; exact lV (j + 1) p.cor.length
   have c1 : aT p.cor j = p.cor[j] := by rw [aT,Nat.mod_eq_of_lt hj,aO hj]
   have c2 : aT p.cor (j + 1) = p.cor[k1] := by rw [aT,← hk1,aO hk]
   have b1 := iI hb j
   have b2 := iI hb (j + 1)
   rw [c1] at b1
   rw [c2] at b2
   have bxL : ∀ L,(H ++ L : aA)[b]? = _ := fun L => aB (k := L) bxH
   have z1 := bO (n := p.cor[k1].w - p.cor[j].w) (by unfold I64; omega)
   have z2 := bO (n := p.cor[k1].m - p.cor[j].m) (by unfold I64; omega)
   have dr : (List.range p.cor.length).drop j = j :: (List.range p.cor.length).drop (j + 1) := by
    rw [List.drop_eq_getElem_cons (by simpa using hj),List.getElem_range]
   rw [dr] at iH
   have r1' := dO r1
   have st := fun L => step j _ (H ++ L) hj (ja _ _ L iH)
   simp only [mQ,c1,c2] at st
   simp only [go_sem,e1,ix j hj,r1',bxL,lc,n0,em,ix k1 hk,r2,z1,z2]
   refine ⟨(by unfold I64; omega),?_⟩
   refine aP (wU (st _)) ?_
   rintro y G1 rG
   rcases rG with ⟨rfl,it⟩ | ⟨rfl,kk⟩
   · simp only [go_sem]
     exact ⟨(by unfold I64; omega),ih G1 it⟩
   · simp only [go_sem]
     exact .inr kk
 · rintro H iH
   refine aH aI wB [0,1,8,9,10] L188_0.eq_1 ?_
   have e1 : ¬ (p.cor.length : Int) < p.cor.length := by omega
   rw [List.drop_eq_nil_of_le (by simp)] at iH
   simp only [go_sem,e1]
   exact .inl iH
def out1 (p : aS) (x : PtD) (e : Nat) : Bool := decide (kA p x e < 0)
def aAV (p : aS) (x : PtD) : List Bool := (List.range p.cor.length).map (out1 p x)
set_option maxRecDepth 20000 in
theorem out_c {p : aS} {x : PtD} {cv sv fv iv wv : AV} (hp : dX w0 h p cv sv fv) (hx : PtV w0 h x iv wv) (ok : lR p x) (pb : gJ p) (xb : PtB x) : ACall Tryz.prog w0 160 [.agg (p.c cv sv fv ++ x.c iv wv)] h fun y H => aD h H ∧ jX w0 H y (aAV p x) := by
 have o1 := hp.c.one
 have o2 := hp.s.one
 have o3 := hp.f.one
 have o4 := hx.i.one
 have o5 := hx.w.one
 have pn := pb.n
 refine aR aI aCD aFU aFT (qE rfl) fun hb ha => aL ?_
 obtain ⟨R,hR⟩ : ∃ R,R = p.c cv sv fv ++ x.c iv wv := ⟨_,rfl⟩
 have hR' := hR
 simp only [aS.c,PtD.c,List.cons_append,List.nil_append] at hR'
 simp only [go_sem,mf160,List.cons_append,List.nil_append,o1.1,o1.2,o2.1,o2.2,o3.1,o3.2,o4.1,o4.2,o5.1,o5.2]
 refine aP (ACall.vc (first := []) (args := [_]) (aAc (hp.sub aD.refl.app))) ?_
 rintro y H ⟨rfl,rfl⟩
 simp only [go_sem]
 refine oK [1,3,7] ?_
 simp only [go_sem]
 refine tB (fid := 188) (first := []) rfl (.inl rfl) fun hca hcb hps => ?_
 simp only [go_sem]
 obtain ⟨N,eN⟩ : ∃ N,N = h.length := ⟨_,rfl⟩
 rw [← eN]
 obtain ⟨FR,hFR⟩ : ∃ FR : Fr,FR = [(1,AV.ptr (Pl.own N 0)),(3,AV.ptr (Pl.own (N + 1) 0)),(7,AV.fn (Fn.func 188) [] [AV.ptr (Pl.own (N + 2) 0)])] := ⟨_,rfl⟩
 obtain ⟨LB,hLB⟩ : ∃ LB : LoopState → Option Code → Blk,LB = Blk.loop 17 FR #[8] (bI (cI 160) [1,1,0,1,0,0]) (bI (cI 160) [1,1,0,1,0,1]) := ⟨_,rfl⟩
 rw [← hFR,← hLB]
 obtain ⟨C,eC⟩ : ∃ C,C = [N + 1,N + 3] := ⟨_,rfl⟩
 rw [← hR']
 obtain ⟨Q,hQ⟩ : ∃ Q,Q = p.c cv sv fv := ⟨_,rfl⟩
 have hQ' := hQ
 simp only [aS.c] at hQ'
 rw [← hQ']
 obtain ⟨G0,eG0⟩ : ∃ G0 : aA,G0 = h ++ [some (.row R),some (.row [.nilS]),some (.row Q),some (LB .ready none)] := ⟨_,rfl⟩
 obtain ⟨B,eB⟩ : ∃ B,B = msk C G0 := ⟨_,rfl⟩
 have lG : G0.length = N + 4 := by rw [eG0,eN]; simp
 have lB : B.length = N + 4 := by rw [eB,bT,lG]
 have hm : aD h B := by
  rw [eB,eG0]
  refine ⟨by rw [bT]; simp,fun i b e => ?_⟩
  have := aM e
  rw [bZ (by rw [eC]; simp; omega)]; exact aB e
 have hB0 : B[N]? = some (some (.row R)) := by
  rw [eB,bZ (by rw [eC]; simp),eG0,eN,qI (by omega)]; simp
 have hB2 : B[N + 2]? = some (some (.row Q)) := by
  rw [eB,bZ (by rw [eC]; simp),eG0,eN,qI (by omega)]; simp
 have hB1 : B[N + 1]? = some none := by rw [eB]; exact lH (by rw [eC]; simp) (by omega)
 have hB3 : B[N + 3]? = some none := by rw [eB]; exact lH (by rw [eC]; simp) (by omega)
 rw [← eG0]
 refine ACall.mono (rS (B := B) (J := fun r H => ∃ ov l,Gro B H 1 l.length ov (l.map AV.bool) ∧ H[N + 1]? = some (some (.row [ov])) ∧ H[N + 3]? = some (some (LB .ready none)) ∧ l ++ r.map (out1 p x) = aAV p x) (Kx := fun _ => False) (by rw [← hQ]; exact hB2) (hp.sub hm) ⟨by omega,by omega⟩ pb.c ?_ ?_ ?_ ?_) ?_
 · rintro r H ⟨ov,l,g,_⟩; exact g.sub
 · rintro r H L ⟨ov,l,g,j1,j2,j3⟩; exact ⟨ov,l,g.app,aB j1,aB j2,j3⟩
 · rintro e r H he ⟨ov,l,g,j1,j2,j3⟩
   have f3' := j2
   rw [hLB] at f3'
   have q3 := aM j2
   refine kM (psl := [8]) aI rfl aBw aBv tV.eq_1 tU.eq_1 f3' rfl hps hca hcb fun hb2 ha2 => ?_
   have f3a : ∀ L,(H ++ L)[N + 3]? = _ := fun L => aB (k := L) f3'
   obtain ⟨LY,hLY⟩ : ∃ b,b = Blk.loop 17 [(1,AV.ptr (Pl.own N 0)),(3,AV.ptr (Pl.own (N + 1) 0)),(7,AV.fn (Fn.func 188) [] [AV.ptr (Pl.own (N + 2) 0)])] #[8] (bI (cI 160) [1,1,0,1,0,0]) (bI (cI 160) [1,1,0,1,0,1]) LoopState.busy none := ⟨_,rfl⟩
   simp only [go_sem,f3a,hFR]
   rw [← hLY]
   obtain ⟨ed,hed⟩ : ∃ ed,ed = mQ p.cor e := ⟨_,rfl⟩
   have hed' := hed
   rw [mQ] at hed'
   obtain ⟨Y,eY⟩ : ∃ Y,Y = (H ++ [some (Blk.row ed)]).set (N + 3) (some LY) := ⟨_,rfl⟩
   have lY : Y.length = H.length + 1 := by rw [eY]; simp
   have old : ∀ (i : Nat) b,i ≠ N + 3 → H[i]? = some (some b) → Y[i]? = some (some b) := fun i b hi e => by
    rw [eY,qB (fun e => hi e.symm)]; exact aB e
   have y0 := old _ _ (by omega) (g.sub.2 _ _ hB0)
   have y1 := old _ _ (by omega) j1
   have y3 : Y[N + 3]? = some (some LY) := by rw [eY,qF (by simp; omega)]
   have y4 : Y[H.length]? = some (some (.row ed)) := by
    rw [eY,qB (by omega),qI (Nat.le_refl _),Nat.sub_self]; rfl
   have gY : Gro B Y 1 l.length ov (l.map AV.bool) := by rw [eY]; exact (g.app).setN hB3
   rw [← hed',← eY]
   have l1 := j3
   have ll : l.length ≤ 1000 := by have := congrArg List.length j3; simp [aAV] at this; omega
   obtain ⟨b,hbv⟩ : ∃ b : Bool,b = decide (kA p x e < 0) := ⟨_,rfl⟩
   have hs3 : ∀ X,(B.set (N + 1) X)[N + 3]? = some none := fun X => by rw [qB (by omega)]; exact hB3
   obtain ⟨G2,ap,g2⟩ := (((gY.at1 y1).at1 y3).app (L := [some (Blk.row [.bool b])])).more (w0 := w0) (b := 1) (k := Y.length) (x := [.bool b]) (f := true) (by simp) rfl rfl (by omega) (by omega)
   have gl : (Y ++ [some (Blk.row [AV.bool b])]).length = Y.length + 1 := by simp
   rw [gl] at ap g2
   obtain ⟨g3,w3⟩ := g2.unat (hs3 _)
   obtain ⟨g4,w1⟩ := g3.unat hB1
   have co := gY.gro1
   have w3' : ∀ X,(G2.set (N + 1) X)[N + 3]? = some (some LY) := fun X => by rw [qB (by omega)]; exact w3
   rw [hR'] at y0
   rw [hed'] at y4
   refine rU aI [0,1,2,3,4,5,6,7] [o_ 9 (l_ 3),o_ 10 (.load (.t 1) (some 15)),o_ 11 (.load (.t 4) (some 5)),.call (some 12) none (f_ 182) [(.t 10),(.t 11)]] [([(0,o_ 9 (l_ 3))],[o_ 13 (.bin .lss (.t 12) (i_ 0)),o_ 14 (.bslice 1 [(.bool false)] 1 [(0,1,(.t 13))]),o_ 15 (.app 1 [(.bool false)] 1 (.t 9) (.t 14)),.op none none (.store (.t 3) (.t 15) 1)])] rfl rfl (by kernel_rfl) ?_
   simp only [go_sem,y0,y1,y4,o1.1,o1.2,o2.1,o2.2,o3.1,o3.2,o4.1,o4.2,o5.1,o5.2]
   have sY := hm.trans gY.sub
   refine aC (aBI (e := e) (hp.sub sY) (hx.sub sY) ok pb xb).v ?_
   simp only [go_sem,y0,y1,y4,co.1,co.2,← hbv,ap,w1,w3']
   refine ⟨⟨_,_,by rw [hLY]⟩,.inl ⟨.sl (.own (Y.length + 1) 0) (l.length + 1) 1 false,l ++ [b],?_,?_,?_,?_⟩⟩
   · rw [List.length_append,List.map_append]
     exact (g4.setN hB1).setN hB3
   · rw [qB (by omega),qF (aM w1)]
   · rw [qF (by simp; exact aM w3),hLB,hFR]
   · rw [← j3,List.map_cons,List.append_assoc]
     congr 1
     rw [hbv]; rfl
 · refine ⟨.nilS,[],Gro.nil (by rw [eB]; exact fT),?_,?_,rfl⟩
   all_goals
    rw [eG0,eN,qI (by omega)]; simp
 · rintro _ H (⟨ov,l,g,j1,j2,j3⟩ | hf)
   rotate_left
   · exact hf.elim
   have f3' := j2
   rw [hLB,hFR] at f3'
   obtain ⟨X,eX⟩ : ∃ X,X = H.set (N + 3) none := ⟨_,rfl⟩
   have x1 : X[N + 1]? = some (some (.row [ov])) := by rw [eX,qB (by omega)]; exact j1
   simp only [f3',← eX,hFR]
   simp only [go_sem,x1]
   have gX : Gro B X 1 l.length ov (l.map AV.bool) := by rw [eX]; exact g.setN hB3
   refine ⟨hm.trans gX.sub,?_⟩
   simp only [List.map_nil,List.append_nil] at j3
   rw [← j3]
   exact gX.boo rfl
def sL : List FuncId := [156,157,158,159,160,161]
def gD (c : List AV) : List AV := sL.map fun f => .fn (.func f) [.agg c] []
def bE (p : aS) (x : PtD) : List (List Bool) := [zT p x,[decide (x.thi > p.tank.most)],wetD p x,[pQ p x],aAV p x,[mZ p x]]
theorem zN {p : aS} {x : PtD} {cv sv fv iv wv : AV} (hp : dX w0 h p cv sv fv) (hx : PtV w0 h x iv wv) : aQ Tryz.prog w0 82 [.agg (p.c cv sv fv ++ x.c iv wv)] h (.agg (gD (p.c cv sv fv ++ x.c iv wv))) h := by
 have o1 := hp.c.one
 have o2 := hp.s.one
 have o3 := hp.f.one
 have o4 := hx.i.one
 have o5 := hx.w.one
 have b1 := hp.c.bdd (Nat.le_refl _)
 have b2 := hp.s.bdd (Nat.le_refl _)
 have b3 := hp.f.bdd (Nat.le_refl _)
 have b4 := hx.i.bdd (Nat.le_refl _)
 have b5 := hx.w.bdd (Nat.le_refl _)
 simp only [gD,sL,List.map_cons,List.map_nil,aS.c,PtD.c,List.cons_append,List.nil_append]
 refine aF aI aEE mf82_b mf82_g (qE rfl) (by simp [AV.bdd,AV.bdds,b1,b2,b3,b4,b5]) fun hb ha => aL ?_
 simp only [go_sem,mf82,o1.1,o1.2,o2.1,o2.2,o3.1,o3.2,o4.1,o4.2,o5.1,o5.2]
theorem aBZ {p : aS} {x : PtD} {cv sv fv iv wv : AV} {i : Nat} {f : FuncId} (hp : dX w0 h p cv sv fv) (hx : PtV w0 h x iv wv) (ok : lR p x) (pb : gJ p) (xb : PtB x) (hs : p.sta.length ≤ 1000) (hi : i < 6) :
 bN Tryz.prog w0 ((gD (p.c cv sv fv ++ x.c iv wv)).getD i .undef) [] h fun y H => aD h H ∧ jX w0 H y ((bE p x).getD i []) := by
 match i,hi with
 | 0,_ => exact ACall.vc (first := [_]) (args := []) (over_c hp hx ok xb hs)
 | 1,_ => exact ACall.vc (first := [_]) (args := []) (full_c hp hx)
 | 2,_ => exact ACall.vc (first := [_]) (args := []) (wet_c hp hx ok)
 | 3,_ => exact ACall.vc (first := [_]) (args := []) (aGY hp hx ok pb xb)
 | 4,_ => exact ACall.vc (first := [_]) (args := []) (out_c hp hx ok pb xb)
 | 5,_ => exact ACall.vc (first := [_]) (args := []) (aBG hp hx)
def kS (p : aS) (x : PtD) : Bool := (bE p x).all fun l => l.all fun b => !b
def BrokK (b : Bool) (y : AV) : Prop := ∃ r k : Int,y = .tup [.int .i64 r,.int .i64 k] ∧ (b = true ↔ r = 1)
theorem jX.at_ {H : aA} {v : AV} {l : List Bool} (s : jX w0 H v l) {j : Nat} (hj : j < l.length) : ∃ q : Pl,cS 1 v (some j) = some (.ptr q) ∧ ∀ L,rd w0 (H ++ L) q = some (.bool l[j]) := by
 obtain ⟨_,q,ix,row,_⟩ := s.s.use
 rw [List.length_map] at ix
 have r := hJ (f := fun b => [AV.bool b]) row hj
 refine ⟨q.add (j * 1),ix j hj,fun L => ?_⟩
 have := cV (r L) (o := 0) rfl
 rwa [Pl.add_add,Nat.add_zero] at this
theorem jX.len {H : aA} {v : AV} {l : List Bool} (s : jX w0 H v l) : eH v = some (.int .i64 l.length) := by
 have := s.s.use.1
 rwa [List.length_map] at this
theorem jX.sub {G H : aA} {v : AV} {l : List Bool} (s : jX w0 G v l) (t : aD G H) : jX w0 H v l := SlZ.sub s t
theorem lC {p : aS} {x : PtD} (ok : lR p x) (pb : gJ p) (hs : p.sta.length ≤ 1000) : ∀ l ∈ bE p x,l.length ≤ 1000 := fun l hl => by
 have h1 := ok.w
 have h2 := ok.f
 have h3 := pb.n
 simp only [bE,List.mem_cons,List.not_mem_nil,or_false] at hl
 rcases hl with rfl | rfl | rfl | rfl | rfl | rfl <;> simp [zT,wetD,aAV] <;> omega
set_option maxRecDepth 20000 in
theorem aDx {p : aS} {x : PtD} {cv sv fv iv wv : AV} (hp : dX w0 h p cv sv fv) (hx : PtV w0 h x iv wv) (ok : lR p x) (pb : gJ p) (xb : PtB x) (hs : p.sta.length ≤ 1000) : ACall Tryz.prog w0 83 [.agg (p.c cv sv fv ++ x.c iv wv)] h fun y H => aD h H ∧ BrokK (kS p x) y := by
 have o1 := hp.c.one
 have o2 := hp.s.one
 have o3 := hp.f.one
 have o4 := hx.i.one
 have o5 := hx.w.one
 refine aR aI aED mf83_b mf83_g (qE rfl) fun hb ha => aL ?_
 obtain ⟨R,hR⟩ : ∃ R,R = p.c cv sv fv ++ x.c iv wv := ⟨_,rfl⟩
 have hR' := hR
 simp only [aS.c,PtD.c,List.cons_append,List.nil_append] at hR'
 simp only [go_sem,mf83,List.cons_append,List.nil_append,o1.1,o1.2,o2.1,o2.2,o3.1,o3.2,o4.1,o4.2,o5.1,o5.2]
 refine aC (zN (hp.sub aD.refl.app) (hx.sub aD.refl.app)).v ?_
 rw [← hR,← hR']
 simp only [go_sem]
 refine cG (S := aA) (fun i _ => [(9,.agg (gD R)),(10,.int .i64 i)]) (fun _ s => s) (fun i s => aD h s ∧ ((bE p x).take i).all (fun l => l.all fun b => !b) = true) 6 _ ⟨aD.refl.app,rfl⟩ rfl rfl ?_ ?_
 · rintro i H hi ⟨sH,hall⟩ ih
   refine aH aI aAn [9,10] L83_1.eq_1 ?_
   have e1 : (i : Int) < 6 := by omega
   have i6 : i < 6 := hi
   have cc := aBZ (f := 0) (hp.sub sH) (hx.sub sH) ok pb xb hs hi
   rw [← hR] at cc
   obtain ⟨rv,hrv⟩ : ∃ rv,rv = (gD R).getD i .undef := ⟨_,rfl⟩
   have hr : (gD R)[i * 1]? = some rv := by
    rw [Nat.mul_one,hrv,List.getD_eq_getElem?_getD,qA (by simpa [gD,sL] using hi)]; rfl
   rw [← hrv] at cc
   obtain ⟨lst,hl⟩ : ∃ lst,lst = (bE p x).getD i [] := ⟨_,rfl⟩
   rw [← hl] at cc
   have hlm : lst ∈ bE p x := by
    have h6 : i < (bE p x).length := hi
    rw [hl,aO h6]; exact qG h6
   have hll := lC ok pb hs lst hlm
   have tk : (bE p x).take (i + 1) = (bE p x).take i ++ [lst] := by
    have h6 : i < (bE p x).length := hi
    rw [List.take_succ_eq_append_getElem h6,hl,aO h6]
   simp only [go_sem,e1,i6,hr]
   refine aP cc ?_
   rintro y G ⟨sG,bv⟩
   have ln := bv.len
   have sHG := sH.trans sG
   simp only [go_sem,ln]
   refine dR (fun k => [(4,.int .i64 i),(9,.agg (gD R)),(10,.int .i64 i),(15,y),(16,.int .i64 lst.length),(17,.int .i64 k)]) (fun k => lst.getD k false = false) lst.length rfl (fun k hk hall2 ih2 => ?_) (fun hall2 => ?_)
   · refine aH aI aAo [4,9,10,15,16,17] L83_0.eq_1 ?_
     have e2 : (k : Int) < lst.length := by omega
     obtain ⟨q,ix,rk⟩ := bv.at_ hk
     have rk' := tF rk
     rw [aO hk] at ih2
     cases hb2 : lst[k] with
     | true =>
      rw [hb2] at rk'
      simp only [go_sem,e2,ix,rk']
      refine ⟨(by unfold I64; omega),sHG,2 + i,k,rfl,?_⟩
      have : kS p x = false := List.all_eq_false.2 ⟨lst,hlm,by
       rw [Bool.not_eq_true]
       exact List.all_eq_false.2 ⟨_,qG hk,by rw [hb2]; simp⟩⟩
      rw [this]
      constructor
      · intro hh; cases hh
      · intro hh; omega
     | false =>
      rw [hb2] at rk'
      simp only [go_sem,e2,ix,rk']
      exact ⟨(by unfold I64; omega),ih2 hb2⟩
   · refine aH aI aAo [4,9,10,15,16,17] L83_0.eq_1 ?_
     have e2 : ¬ (lst.length : Int) < lst.length := by omega
     have ha : (lst.all fun b => !b) = true := List.all_eq_true.2 fun b hb3 => by
      obtain ⟨k,hk,rfl⟩ := List.getElem_of_mem hb3
      have := hall2 k hk
      rw [aO hk] at this
      rw [this]; rfl
     simp only [go_sem,e2]
     exact ⟨(by unfold I64; omega),ih G ⟨sHG,by rw [tk,List.all_append,hall,List.all_cons,ha]; rfl⟩⟩
 · rintro H ⟨sH,hall⟩
   refine aH aI aAn [9,10] L83_1.eq_1 ?_
   have e1 : ¬ ((6 : Nat) : Int) < 6 := by omega
   simp only [go_sem,e1]
   refine ⟨sH,1,0,rfl,?_⟩
   rw [show (bE p x).take 6 = bE p x from rfl] at hall
   simp [kS,hall]
theorem aDB {H : aA} {v : AV} {es b : Nat} {rows : List (List AV)} (s : SlZ w0 H es v rows) (ho : ∀ c ∈ rows,c.all one = true) (hb : b ≤ 1000000) (hn : rows.length ≤ 1000) : ∃ y L,eV w0 H es b .nilS v = some (y,H ++ L) ∧ ((rows = [] ∧ y = .nilS ∧ L = []) ∨ (y = .sl (.own H.length 0) rows.length es false ∧ L = [some (.row rows.flatten)])) := by
 by_cases hx : rows = []
 · subst hx
   refine ⟨.nilS,[],?_,.inl ⟨rfl,rfl,rfl⟩⟩
   simp only [eV,s.e rfl,Option.bind_some]
   simp
 · exact ⟨_,_,vU (w0 := w0) (b := b) s.s hx ho hb (by omega),.inr ⟨rfl,rfl⟩⟩
def OwnZ (H : aA) (es : Nat) (y : AV) (rows : List (List AV)) (b : Nat) : Prop := (rows = [] ∧ y = .nilS) ∨ ∃ f,y = .sl (.own b 0) rows.length es f ∧ H[b]? = some (some (.row rows.flatten))
theorem OwnZ.sl {H : aA} {es b : Nat} {y : AV} {rows : List (List AV)} (a : OwnZ H es y rows b) (he : ∀ c ∈ rows,c.length = es) : Sl w0 H es y rows := by
 rcases a with ⟨h1,h2⟩ | ⟨f,rfl,h2⟩
 · exact .inl ⟨h2,h1⟩
 · exact nM h2 he
theorem OwnZ.to {H H2 : aA} {es b : Nat} {y : AV} {rows : List (List AV)} (a : OwnZ H es y rows b) (s : ∀ c,H[b]? = some (some c) → H2[b]? = some (some c)) : OwnZ H2 es y rows b := by
 rcases a with h1 | ⟨f,h1,h2⟩
 · exact .inl h1
 · exact .inr ⟨f,h1,s _ h2⟩
structure PLs (w0 : World) (ms : List Nat) (K H : aA) (ov : AV) (io : Nat) (rows : List (List AV)) (pts : List PtD) : Prop where
 g : Gr2 H 5 pts.length io ov rows.flatten
 l : rows.length = pts.length
 r : ∀ (j : Nat) x c,pts[j]? = some x → rows[j]? = some c → ∃ iv wv,c = x.c iv wv ∧ PtV w0 (msk ms (Ab.mk pts.length io H)) x iv wv
 s : aD K (msk ms (Ab.mk pts.length io H))
theorem PLs.to {ms : List Nat} {K H H2 : aA} {ov : AV} {io : Nat} {rows : List (List AV)} {pts : List PtD} (a : PLs w0 ms K H ov io rows pts) (hs : aD (msk ms (Ab.mk pts.length io H)) (msk ms (Ab.mk pts.length io H2))) (hg : Gr2 H2 5 pts.length io ov rows.flatten) : PLs w0 ms K H2 ov io rows pts :=
 ⟨hg,a.l,fun j x c h1 h2 => by obtain ⟨iv,wv,e,v⟩ := a.r j x c h1 h2; exact ⟨iv,wv,e,v.sub hs⟩,a.s.trans hs⟩
def mK (p : aS) (lg : bU) (tlo thi wlo whi : Int) (ld : Bool) : PtD := ⟨lg.items,tlo,thi,List.replicate p.flo.length (wlo,whi),ld⟩
set_option maxRecDepth 20000 in
theorem add_c {p : aS} {cv sv fv iv ov : AV} {lg : bU} {nb pb wb ob io : Nat} {tlo thi wlo whi : Int} {ms : List Nat} {K H : aA} {rows : List (List AV)} {pts : List PtD} {ld : Bool}
 (hl : SlZ w0 H 3 iv (lg.items.map dF.c)) (hil : lg.items.length ≤ 1000) (lf : eH fv = some (.int .i64 p.flo.length)) (hf : p.flo.length ≤ 1000)
 (h1 : H[nb]? = some (some (.row [.int .i64 tlo,.int .i64 thi]))) (h2 : H[pb]? = some (some (.row (p.c cv sv fv)))) (h3 : H[wb]? = some (some (.row [.int .i64 wlo,.int .i64 whi]))) (h4 : H[ob]? = some (some (.row [ov])))
 (hms : ob ∈ ms) (hmb : ∀ i ∈ ms,i < H.length) (n1 : nb ≠ ob) (n2 : pb ≠ ob) (n3 : wb ≠ ob) (ni : pts ≠ [] → io ∉ ms ∧ io ≠ pb)
 (a : PLs w0 ms K H ov io rows pts) (hn : pts.length ≤ 1000) :
 ACall Tryz.prog w0 155 [.agg (lg.c iv),.bool ld,.ptr (.own nb 0),.ptr (.own pb 0),.ptr (.own wb 0),.ptr (.own ob 0)] H fun _ H' => ∃ ov' io' rows',H'[ob]? = some (some (.row [ov'])) ∧ PLs w0 ms K H' ov' io' rows' (pts ++ [mK p lg tlo thi wlo whi ld]) ∧ H.length ≤ io' ∧ H.length ≤ H'.length ∧ ∀ (i : Nat) b,i ≠ ob → (pts ≠ [] → i ≠ io) → H[i]? = some (some b) → H'[i]? = some (some b) := by
 have oi := hl.s.one
 refine aR aI aCI aF4 aF3 (qE rfl) fun hb ha => aL ?_
 have g1 : ∀ L,(H ++ L : aA)[nb]? = _ := fun L => aB (k := L) h1
 obtain ⟨X,eX⟩ : ∃ X : aA,X = H ++ [some (.row (lg.c iv)),some (.row [.nilS,.int .i64 tlo,.int .i64 thi,.nilS,.bool ld])] := ⟨_,rfl⟩
 have lX : X.length = H.length + 2 := by rw [eX]; simp
 have x6 : X[H.length]? = some (some (.row (lg.c iv))) := by rw [eX]; simp
 have x8 : X[H.length + 1]? = some (some (.row [.nilS,.int .i64 tlo,.int .i64 thi,.nilS,.bool ld])) := by rw [eX]; simp
 have sX : aD H X := by rw [eX]; exact aD.refl.app
 obtain ⟨y,L,ap,hy⟩ := aDB (w0 := w0) (b := 24) (hl.sub sX) (fun c hc => by obtain ⟨z,_,rfl⟩ := List.mem_map.1 hc; rfl) (by omega) (by simpa using hil)
 have eX' := eX
 simp only [bU.c] at x6 eX'
 simp only [go_sem,mf155,oi.1,oi.2,g1]
 rw [← eX']
 have x8' : ∀ L : aA,(X ++ L)[H.length + 1]? = _ := fun L => aB (k := L) x8
 have oy : Ab.one y = true ∧ cellsOf y = some [y] := by rcases hy with ⟨_,rfl,_⟩ | ⟨rfl,_⟩ <;> exact ⟨rfl,rfl⟩
 simp only [go_sem,x6,x8,ap,x8',oy.1,oy.2]
 obtain ⟨Z,eZ⟩ : ∃ Z,Z = (X ++ L).set (H.length + 1) (some (Blk.row [y,.int .i64 tlo,.int .i64 thi,.nilS,.bool ld])) := ⟨_,rfl⟩
 rw [← eZ]
 have lXL : (X ++ L).length = X.length + L.length := List.length_append
 have sZ : aD H Z := by rw [eZ]; exact (sX.app).setR (by omega)
 have z8 : Z[H.length + 1]? = some (some (.row [y,.int .i64 tlo,.int .i64 thi,.nilS,.bool ld])) := by rw [eZ]; exact qF (by omega)
 obtain ⟨KB,eKB⟩ : ∃ KB,KB = Z.set (H.length + 1) none := ⟨_,rfl⟩
 have k8 : KB[H.length + 1]? = some none := by rw [eKB]; exact qF (aM z8)
 have sKB : aD KB Z := by rw [eKB]; exact aD.msk
 have sHK : aD H KB := by rw [eKB]; exact sZ.setR (by omega)
 have z2 := sZ.2 _ _ h2
 simp only [aS.c] at z2
 simp only [go_sem,z2,lf]
 refine cG (S := aA × AV) (fun j _ => [(4,.ptr (.own wb 0)),(5,.ptr (.own ob 0)),(8,.ptr (.own (H.length + 1) 0)),(20,.int .i64 p.flo.length),(21,.int .i64 j)]) (fun _ s => s.1) (fun j s => Gro KB s.1 2 j s.2 ((List.replicate j (spC (wlo,whi))).flatten) ∧ s.1[H.length + 1]? = some (some (.row [y,.int .i64 tlo,.int .i64 thi,s.2,.bool ld]))) p.flo.length (Z,.nilS) ⟨Gro.nil sKB,z8⟩ rfl rfl ?_ ?_
 · rintro j ⟨G,wv⟩ hj ⟨g,b8⟩ ih
   simp only at g b8 ih ⊢
   refine aH aI wI [4,5,8,20,21] L155_0.eq_1 ?_
   have e1 : (j : Int) < p.flo.length := by omega
   have q3 := (sHK.trans g.sub).2 _ _ h3
   obtain ⟨G2,ap2,g2⟩ := ((g.at1 b8).app (L := [some (Blk.row (spC (wlo,whi)))])).more (w0 := w0) (b := 16) (k := G.length) (x := spC (wlo,whi)) (f := true) (by simp) rfl rfl (by omega) (by omega)
   have gl : (G ++ [some (Blk.row (spC (wlo,whi)))]).length = G.length + 1 := by simp
   rw [gl] at ap2 g2
   obtain ⟨g3,w8⟩ := g2.unat k8
   have co := g.gro1
   have rs : (List.replicate (j + 1) (spC (wlo,whi))).flatten = (List.replicate j (spC (wlo,whi))).flatten ++ spC (wlo,whi) := by
    rw [List.replicate_succ',List.flatten_append]; simp
   simp only [spC] at ap2
   simp only [go_sem,e1,b8,q3,co.1,co.2,ap2,w8]
   refine ⟨(by unfold I64; omega),ih (G2.set (H.length + 1) (some (.row [y,.int .i64 tlo,.int .i64 thi,.sl (.own (G.length + 1) 0) (j + 1) 2 false,.bool ld])),_) ⟨?_,qF (aM w8)⟩⟩
   rw [rs]
   exact g3.setN k8
 · rintro ⟨G,wv⟩ ⟨g,b8⟩
   simp only at g b8 ⊢
   refine aH aI wI [4,5,8,20,21] L155_0.eq_1 ?_
   have e1 : ¬ (p.flo.length : Int) < p.flo.length := by omega
   have sG := sHK.trans g.sub
   have q4 := sG.2 _ _ h4
   obtain ⟨c5,hc5⟩ : ∃ c5,c5 = [y,.int .i64 tlo,.int .i64 thi,wv,AV.bool ld] := ⟨_,rfl⟩
   have co := g.gro1
   have aG := a.g.sub (sG.app (L := [some (Blk.row c5)]))
   obtain ⟨G2,ap2,g2,s2,lG2⟩ := aG.more (w0 := w0) (b := 72) (k := G.length) (x := c5) (f := true) (by simp) (by rw [hc5]; rfl) (by rw [hc5]; show (Ab.one y && (true && (true && (Ab.one wv && (true && true))))) = true; rw [oy.1,co.1]; rfl) (by omega) (by omega)
   have gl : (G ++ [some (Blk.row c5)]).length = G.length + 1 := by simp
   rw [gl] at ap2 g2 s2 lG2
   have lHG := sG.1
   have cov := a.g.one
   have kp : ∀ (i : Nat) b,(pts ≠ [] → i ≠ io) → i < G.length + 1 → (G ++ [some (Blk.row c5)])[i]? = some (some b) → G2[i]? = some (some b) := fun i b hi hl e => by
    have e1 : (Ab.mk pts.length io (G ++ [some (Blk.row c5)]))[i]? = some (some b) := by
     unfold Ab.mk
     split
     · exact e
     · rename_i hne
       rw [qB (fun w => hi (fun z => hne (by rw [z]; rfl)) w.symm)]; exact e
    have e2 := s2.2 i b e1
    rw [Ab.mk,if_neg (by omega),qB (by omega)] at e2
    exact e2
   have w4 : G2[ob]? = some (some (.row [ov])) := kp _ _ (fun z w => (ni z).1 (w ▸ hms)) (by have := aM q4; omega) (aB q4)
   rw [hc5] at ap2
   have hio : pts ≠ [] → io < H.length := fun hne => by
    rcases a.g with ⟨z,_⟩ | ⟨_,_,z,_⟩
    · exact absurd (List.eq_nil_of_length_eq_zero z) hne
    · exact aM z
   have hob := hmb ob hms
   obtain ⟨ov',hov'⟩ : ∃ ov',ov' = AV.sl (.own (G.length + 1) 0) (pts.length + 1) 5 false := ⟨_,rfl⟩
   obtain ⟨F,eF⟩ : ∃ F,F = G2.set ob (some (Blk.row [ov'])) := ⟨_,rfl⟩
   have lF : F.length = G.length + 2 := by rw [eF,List.length_set,lG2]
   have kF : ∀ (i : Nat) b,i ≠ ob → (pts ≠ [] → i ≠ io) → G[i]? = some (some b) → F[i]? = some (some b) := fun i b h1 h2 e => by
    rw [eF,qB (fun w => h1 w.symm)]
    exact kp i b h2 (by have := aM e; omega) (aB e)
   have hm2 : aD (msk ms (Ab.mk pts.length io H)) (msk ms (Ab.mk (pts.length + 1) (G.length + 1) F)) := by
    have ml : (Ab.mk pts.length io H).length = H.length := by unfold Ab.mk; split <;> simp
    refine ⟨by rw [bT,bT,ml,Ab.mk,if_neg (by omega),List.length_set]; omega,fun i b e => ?_⟩
    have hi : i < H.length := by have := aJ e; rw [bT,ml] at this; exact this
    have him : i ∉ ms := fun w => by rw [lH w (by rw [ml]; exact hi)] at e; cases e
    rw [bZ him] at e
    rw [bZ him,Ab.mk,if_neg (by omega),qB (by omega)]
    have hne : pts ≠ [] → i ≠ io := fun hne w => by
     rw [Ab.mk,if_neg (fun z => hne (List.eq_nil_of_length_eq_zero z)),w,qF (hio hne)] at e
     cases e
    have e0 : H[i]? = some (some b) := by
     unfold Ab.mk at e
     split at e
     · exact e
     · rename_i z
       rwa [qB (fun w => hne (fun q => z (by rw [q]; rfl)) w.symm)] at e
    exact kF i b (fun w => him (w ▸ hms)) hne (sG.2 _ _ e0)
   have newB : ∀ (i : Nat) b,H.length ≤ i → G[i]? = some (some b) → (msk ms (Ab.mk (pts.length + 1) (G.length + 1) F))[i]? = some (some b) := fun i b hi e => by
    have := aM e
    rw [bZ (fun w => by have := hmb i w; omega),Ab.mk,if_neg (by omega),qB (by omega)]
    exact kF i b (by omega) (fun hne => by have := hio hne; omega) e
   have lKB : KB.length = X.length + L.length := by rw [eKB,List.length_set,eZ,List.length_set,lXL]
   have yS : Sl w0 (msk ms (Ab.mk (pts.length + 1) (G.length + 1) F)) 3 y (lg.items.map dF.c) := by
    rcases hy with ⟨q1,q2,_⟩ | ⟨q1,q2⟩
    · rw [q1]; exact .inl ⟨q2,rfl⟩
    · have e2 : G[X.length]? = some (some (.row (lg.items.map dF.c).flatten)) := g.sub.2 _ _ (by
       rw [eKB,qB (by omega),eZ,qB (by omega),q2,qI (Nat.le_refl _),Nat.sub_self]; rfl)
      rw [q1]
      exact nM (newB _ _ (by omega) e2) fun c hc => by obtain ⟨z,_,rfl⟩ := List.mem_map.1 hc; rfl
   have wS : Sl w0 (msk ms (Ab.mk (pts.length + 1) (G.length + 1) F)) 2 wv ((mK p lg tlo thi wlo whi ld).water.map spC) := by
    have ew : (mK p lg tlo thi wlo whi ld).water.map spC = List.replicate p.flo.length (spC (wlo,whi)) := by simp [mK,List.map_replicate]
    rw [ew]
    rcases g.own with ⟨q1,q2,_⟩ | ⟨io2,q1,q2,q3,q4,_⟩
    · rw [q1]; exact .inl ⟨q2,rfl⟩
    · rw [q3]
      have := nM (w0 := w0) (es := 2) (full := false) (rows := List.replicate p.flo.length (spC (wlo,whi))) (newB _ _ (by omega) q4) fun c hc => by rw [List.eq_of_mem_replicate hc]; rfl
      rwa [List.length_replicate] at this
   simp only [go_sem,e1,b8,q4,cov.1,cov.2,co.1,co.2,oy.1,oy.2,ap2,w4]
   rw [← hov',← eF]
   have gF : Gr2 F 5 (pts.length + 1) (G.length + 1) ov' (rows.flatten ++ c5) := by
    rw [hov']
    exact g2.keep fun c e => by rw [eF,qB (by omega)]; exact e
   refine ⟨ov',G.length + 1,rows ++ [c5],by rw [eF]; exact qF (aM w4),⟨?_,by simp [a.l],fun j x c e1 e2 => ?_,?_⟩,by omega,by omega,fun i b e1 e2 e3 => kF i b e1 e2 (sG.2 _ _ e3)⟩
   · rw [List.length_append,List.flatten_append]; simpa using gF
   · rw [List.length_append]
     by_cases hj : j < pts.length
     · rw [qH hj] at e1
       rw [qH (by rw [a.l]; exact hj)] at e2
       obtain ⟨iv2,wv2,z1,z2⟩ := a.r j x c e1 e2
       exact ⟨iv2,wv2,z1,z2.sub hm2⟩
     · have hj2 : j = pts.length := by
        have := (List.getElem?_eq_some_iff.1 e1).1; simp at this; omega
       subst hj2
       rw [qI (Nat.le_refl _),Nat.sub_self] at e1
       rw [← a.l,qI (Nat.le_refl _),Nat.sub_self] at e2
       cases e1; cases e2
       exact ⟨y,wv,hc5,yS,wS⟩
   · rw [List.length_append]; exact a.s.trans hm2
end Go.Proofs.Ab

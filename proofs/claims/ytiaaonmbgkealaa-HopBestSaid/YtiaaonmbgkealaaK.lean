/- The own layer under the proofs of this seat, part K: what calls of the program come to on an abstract heap. No condition. -/
import Derived.Test.YtiaaonmbgkealaaJ
set_option linter.unusedSimpArgs false
set_option linter.unusedVariables false
namespace Go.Proofs.Ab
open Go Go.Proofs
variable {w0 : World} {h : Heap}
attribute [local irreducible] ACall bY dD bA bX rvC lp rg dr ex un rv
theorem oH {d : aO} (dg : dC d) (s : aD) (i : Nat) : 0 ≤ iN d s i ∧ iN d s i ≤ 1000000 := by
 rw [iN]
 split
 · omega
 · rw [List.getD_eq_getElem?_getD]
   cases e : d.planes[i]? with
   | none => simp
   | some p => have := (dg.planes p (List.mem_of_getElem? e)).2.2.2.2; simpa using this
theorem oR {d : aO} (dg : dC d) (s : aD) (i : Nat) : 0 ≤ fV d s i ∧ fV d s i ≤ 1000000 := by
 have hp : (0 ≤ (d.people.getD i ⟨0,0,0,0,0⟩).strand ∧ (d.people.getD i ⟨0,0,0,0,0⟩).strand ≤ 1000000) ∧ (0 ≤ (d.people.getD i ⟨0,0,0,0,0⟩).lodged ∧ (d.people.getD i ⟨0,0,0,0,0⟩).lodged ≤ 1000000) := by
  rw [List.getD_eq_getElem?_getD]
  cases e : d.people[i]? with
  | none => simp
  | some p => have := (dg.people p (List.mem_of_getElem? e)).2.2.2; simpa using this
 rw [fV]
 split
 · omega
 · split
   · exact hp.2
   · exact hp.1
def aHH (w0 : World) (d : aO) (v : bO) (i im : Nat) (ms : List Nat) (h : Heap) (c : Int) (y : AV) (H : Heap) : Prop := y = .int .i64 c ∧ Keep [im] h H ∧ jZ w0 d v i im ms H
theorem uO {d : aO} {v : bO} {m : AV} {i : Nat} (hD : pG w0 h d v m i) (dg : dC d) : ∃ (p : Pl) (x : AV),bT 1 v.we (some 0) = some (.ptr p) ∧ (∀ L,rd w0 (h ++ L) p = some x) ∧ fN x = some (.int .i64 (aJ d : Int)) := by
 obtain ⟨p,x,p1,p2,p3⟩ := hD.R.weathers.at_ (j := 0) (by have := dg.w0; omega)
 refine ⟨p,x,p1,p2,?_⟩
 have := (SlI.use p3).1
 rw [this,(dg.rows _ (qG _)).1]
def aCz (w0 : World) (d : aO) (v : bO) (i im k : Nat) : Prop := ∀ (slot g : Nat) (s : aD) (sv : StV) (ms : List Nat) (h : Heap),slot + (k + 1) = aJ d → g < 2 ^ d.weathers.length → (∃ w,w < d.weathers.length ∧ aV g w = true) → StN d slot s → jZ w0 d v i im ms h → StS w0 (msk ms h) s sv →
 ACall Try.prog w0 79 [.ptr (.own i 0),.int .i64 (slot : Int),.int .i64 (g : Int),.agg (stC sv)] h (aHH w0 d v i im ms h (dS d k slot g s))
def sF (w0 : World) (d : aO) (v : bO) (i im k : Nat) : Prop := ∀ (slot ws : Nat) (s : aD) (sv : StV) (ms : List Nat) (h : Heap),slot + k = aJ d → ws < 2 ^ 50 → StN d slot s → jZ w0 d v i im ms h → StS w0 (msk ms h) s sv →
 ACall Try.prog w0 82 [.ptr (.own i 0),.int .i64 (slot : Int),.int .i64 (ws : Int),.agg (stC sv)] h (aHH w0 d v i im ms h (bF d k ws s))
theorem yT (d : aO) (v : bO) (i im : Nat) (dg : dC d) : sF w0 d v i im 0 := by
 intro slot ws s sv ms h hk hw hs I S
 refine aY aM aCV aF0 aFZ (qE rfl) fun hb ha => aU ?_
 have un := bS (ms := ms) (A := h)
 have hD := I.hD.sub un
 have hS := S.sub un
 obtain ⟨p,x,w1,w2,w3⟩ := uO hD dg
 have ci : ∀ L,(h ++ L)[i]? = some (some (.row (aX v ++ [.map im]))) := fun L => aA hD.hd
 have p1 := Sl.one hS.planes.s
 have p2 := Sl.one hS.legs.s
 have p3 := Sl.one hS.people.s
 have e0 : ((slot : Int) == (aJ d : Int)) = true := by simp; omega
 simp only [go_sem,mf82,p1.1,p2.1,p3.1,p1.2,p2.2,p3.2,ci,w1,w2,w3,e0]
 have sl5 := dg.s1
 refine aF (cost_c (h := h ++ [some (Blk.row [sv.pl,sv.le,sv.pe])]) d v (.map im) i s sv (hD.sub aB.refl.app) (hS.sub aB.refl.app) (hs.ok (by omega)) (oH dg s) (oR dg s) hs.pat).v ?_
 simp only [go_sem]
 exact ⟨rfl,aB.refl.app.toK,I.app⟩
theorem aE3 (d : aO) (v : bO) (i im k : Nat) (dg : dC d) (L : aCz w0 d v i im k) : sF w0 d v i im (k + 1) := by
 intro slot ws s sv ms h hk hw hs I S
 refine aY aM aCV aF0 aFZ (qE rfl) fun hb ha => aU ?_
 have un := bS (ms := ms) (A := h)
 have hD := I.hD.sub un
 have hS := S.sub un
 obtain ⟨p,x,w1,w2,w3⟩ := uO hD dg
 have ci : ∀ L,(h ++ L)[i]? = some (some (.row (aX v ++ [.map im]))) := fun L => aA hD.hd
 have p1 := Sl.one hS.planes.s
 have p2 := Sl.one hS.legs.s
 have p3 := Sl.one hS.people.s
 have e0 : ((slot : Int) == (aJ d : Int)) = false := by simp; omega
 simp only [go_sem,mf82,p1.1,p2.1,p3.1,p1.2,p2.2,p3.2,ci,w1,w2,w3,e0]
 refine aR (ACall.vc (first := []) (args := [_,_,_]) (aAR (h := h ++ [some (Blk.row [sv.pl,sv.le,sv.pe])]) d v (.map im) i ws slot (hD.sub aB.refl.app) dg (by omega) hw)) ?_
 rintro y H ⟨sH,gI⟩
 have hhH : aB h H := aB.refl.app.trans sH
 have es : slot = aJ d - (k + 1) := by omega
 obtain ⟨gs,egs⟩ : ∃ gs,gs = cV d ws slot := ⟨_,rfl⟩
 have hgs : ∀ g ∈ gs,_ := fun g hg => tW (d := d) (ws := ws) (slot := slot) (egs ▸ hg)
 have hgl : gs.length ≤ 6 := by
  have := (mY (d := d) (slot := slot) hw d.weathers.length).2
  have h6 := dg.w1
  rw [egs]; exact Nat.le_trans this h6
 have efin : bF d (k + 1) ws s = gs.foldl (fun m g => max m (dS d k slot g s)) 0 := by rw [bF,egs,es]; rfl
 rw [← egs] at gI
 have ln := (SlI.use (gI.n.s (w0 := w0))).1
 rw [List.length_map] at ln
 simp only [go_sem,ln]
 have b7 : H[h.length]? = some (some (.row (stC sv))) := sH.2 _ _ (by simp [stC])
 have hlt := sH.1
 rw [List.length_append] at hlt
 simp only [List.length_cons,List.length_nil] at hlt
 refine cU (S := Heap) (fun j _ => [(0,.ptr (.own i 0)),(1,.int .i64 (slot : Int)),(7,.ptr (.own h.length 0)),(9,.int .i64 ((gs.take j).foldl (fun m g => max m (dS d k slot g s)) 0)),(28,y),(29,.int .i64 (gs.length : Int)),(30,.int .i64 (j : Int))]) (fun _ H2 => H2)
  (fun _ H2 => Keep [im] H H2 ∧ jZ w0 d v i im ms H2) gs.length H ⟨Keep.refl,I.keep (C := []) hhH.toK (by simp) (by have h1 := I.n2 _ I.n0; obtain ⟨M,e,_⟩ := I.memo; rw [e]; exact hhH.2 _ _ e)⟩ rfl rfl (fun j H2 hj J ih => ?_) (fun H2 J => ?_)
 · refine aE aM aDB [0,1,7,9,28,29,30] L82_0.eq_1 ?_
   obtain ⟨kJ,J⟩ := J
   have himl := I.n2 _ I.n0
   have e1 : (j : Int) < gs.length := by omega
   have g2 := gI.keep kJ (C := [im]) (by simp; omega)
   obtain ⟨_,q,qi,qr⟩ := SlI.use (g2.n.s (w0 := w0))
   have hjm : j < (gs.map Int.ofNat).length := by simpa using hj
   have q1 := qi j hjm
   have q2 := qr j hjm []
   rw [List.append_nil] at q2
   have q3 : (gs.map Int.ofNat)[j] = (gs[j] : Int) := by simp
   rw [q3] at q2
   have c7 : H2[h.length]? = some (some (.row (stC sv))) := kJ.at_ _ _ (by simp; omega) b7
   have hg := hgs gs[j] (qG hj)
   simp only [go_sem,e1,q1,q2,c7]
   refine aR (ACall.vc (first := []) (args := [_,_,_,_]) (L slot gs[j] s sv ms H2 (by omega) hg.2 hg.1 hs J (S.sub ((((aB.toK hhH).trans kJ).msk (ms := ms) fun c hc => .inl (by simp at hc; subst hc; exact I.n0)))))) ?_
   rintro y2 H3 ⟨rfl,k3,J3⟩
   simp only [go_sem]
   refine ⟨(by unfold I64; omega),?_⟩
   have := ih H3 ⟨kJ.trans k3,J3⟩
   rw [List.take_add_one,qA hj,List.foldl_append] at this
   simpa using this
 · refine aE aM aDB [0,1,7,9,28,29,30] L82_0.eq_1 ?_
   obtain ⟨kJ,J⟩ := J
   have himl := I.n2 _ I.n0
   have e1 : ¬ (gs.length : Int) < gs.length := by omega
   simp only [go_sem,e1]
   rw [List.take_length,← efin]
   exact ⟨rfl,(aB.toK hhH).trans kJ,J⟩
theorem dC.seats {d : aO} (dg : dC d) : ∀ p ∈ d.planes,0 ≤ p.seats ∧ p.seats ≤ 1000 := fun p hp => by have := (dg.planes p hp).2.2.1; omega
theorem Keep.iter {C O : List Nat} {G H H2 : Heap} (a : Keep C G H) (t : Keep O H H2) (hO : ∀ c ∈ O,G.length ≤ c) : Keep C G H2 :=
 ⟨Nat.le_trans a.le t.le,fun i b hi e => t.at_ i b (fun hx => by have := hO i hx; have := aP e; omega) (a.at_ i b hi e)⟩
theorem aGK {d : aO} {k slot g im : Nat} {s : aD} {key : List Int} {H : Heap} (dg : dC d) {t : Nat} (hs : StN d t s) (hk : slot + (k + 1) = aJ d) (ek : key = sZ slot g s) (hM : ∃ M,H[im]? = some (some (.map (gW M))) ∧ oI d M) :
 ∃ M2,aCT H ten (.map im) (.agg (aS key)) (.int .i64 (dS d k slot g s)) = some (.undef,H.set im (some (.map (gW M2)))) ∧ oI d M2 := by
 have hpn := dg.pn
 have hpe := dg.pe
 have k1 : s.planes.length ≤ 2 := by rw [hs.s1]; exact hpn
 have k2 : s.legs.length ≤ 2 := by rw [hs.s2]; exact hpn
 have k3 : s.people.length ≤ 4 := by rw [hs.s3]; exact hpe
 have kl := aAO (slot := slot) (ws := g) k1 k2 k3
 rw [← ek] at kl
 obtain ⟨M,hM,hMok⟩ := hM
 have hnn : (keq ten (.agg (aS key)) (.agg (aS key))).isNone = false := by rw [aGV kl kl]; rfl
 have fin : ∀ M2 : List (List Int × Int),(∀ q ∈ M2,q ∈ M ∨ q = (key,dS d k slot g s)) → oI d M2 := fun M2 h2 K c hc => by
  rcases h2 _ hc with h | h
  · exact hMok K c h
  · cases h
    refine ⟨kl,fun k' slot' ws' s' hk' e1 e2 e3 e => ?_⟩
    obtain ⟨rfl,rfl,rfl⟩ := aGU (slot := slot) (ws := g) (slot' := slot') (ws' := ws') k1 k2 k3 (by rw [e1,hs.s1]) (by rw [e2,hs.s2]) (by rw [e3,hs.s3]) (by rw [← ek,e])
    have : k' = k := by omega
    rw [this]
 rcases tD kl M 0 (fun m hm => (hMok _ _ hm).1) with hf | ⟨i,x,hi,hf⟩
 · refine ⟨M ++ [(key,dS d k slot g s)],?_,fin _ fun q hq => by simpa using hq⟩
   have e : gW (M ++ [(key,dS d k slot g s)]) = gW M ++ [(.agg (aS key),.int .i64 (dS d k slot g s))] := by simp [gW]
   rw [e]
   simp only [aCT,hnn,hM,hf]; rfl
 · refine ⟨M.set i (key,dS d k slot g s),?_,fin _ fun q hq => List.mem_or_eq_of_mem_set hq⟩
   have e : gW (M.set i (key,dS d k slot g s)) = (gW M).set i (.agg (aS key),.int .i64 (dS d k slot g s)) := by simp [gW,List.map_set]
   rw [Nat.zero_add] at hf
   rw [e]
   simp only [aCT,hnn,hM,hf]; rfl
theorem aC5 (d : aO) (v : bO) (i im k : Nat) (dg : dC d) (B : sF w0 d v i im k) : aCz w0 d v i im k := by
 intro slot g s sv ms h hk hg hgb hs I S
 refine aY aM aIV mf79_b mf79_g (qE rfl) fun hb ha => aU ?_
 have un := bS (ms := ms) (A := h)
 have hD := I.hD.sub un
 have hS := S.sub un
 have p1 := Sl.one hS.planes.s
 have p2 := Sl.one hS.legs.s
 have p3 := Sl.one hS.people.s
 have hpn := dg.pn
 have hpe := dg.pe
 have sl5 := dg.s1
 have k1 : s.planes.length ≤ 2 := by rw [hs.s1]; exact hpn
 have k2 : s.legs.length ≤ 2 := by rw [hs.s2]; exact hpn
 have k3 : s.people.length ≤ 4 := by rw [hs.s3]; exact hpe
 have kl := aAO (slot := slot) (ws := g) k1 k2 k3
 obtain ⟨key,ekey⟩ : ∃ key,key = sZ slot g s := ⟨_,rfl⟩
 have ci : ∀ L,(h ++ L)[i]? = some (some (.row (aX v ++ [.map im]))) := fun L => aA hD.hd
 obtain ⟨M,hM,hMok⟩ := I.memo
 have cm := xL hM
 have himl := I.n2 _ I.n0
 simp only [go_sem,mf79,p1.1,p2.1,p3.1,p1.2,p2.2,p3.2]
 refine aF (node_c i slot g s sv (hS.sub aB.refl.app) k1 k2 k3).v ?_
 rw [← ekey] at kl ⊢
 have k10 : (aS key).length = 10 := by rw [nU,kl]
 have t10 : List.take 10 (aS key) = aS key := List.take_of_length_le (by rw [k10]; exact Nat.le_refl _)
 have hnn : (keq ten (.agg (aS key)) (.agg (aS key))).isNone = false := by rw [aGV kl kl]; rfl
 rcases tD kl M 0 (fun m hm => (hMok _ _ hm).1) with hf | ⟨j,c,hj,hf⟩
 · have elook : ∀ L,xZ (h ++ L) ten (.int .i64 0) true (.map im) (.agg (aS key)) = some (.tup [.int .i64 0,.bool false]) := fun L => by
    simp only [xZ,hnn,cm,hf]; rfl
   simp only [ten] at elook
   simp only [go_sem,lC,k10,t10,ci,elook,List.append_nil]
   clear elook hf cm
   obtain ⟨f1,f2,f3⟩ := jS d.weathers.length g hgb
   obtain ⟨w,ew⟩ : ∃ w,w = gD g d.weathers.length := ⟨_,rfl⟩
   rw [← ew] at f1 f2 f3
   have hW6 := dg.w1
   have hg50 : g < 2 ^ 50 := Nat.lt_of_lt_of_le hg (Nat.pow_le_pow_right (by omega) (by omega))
   obtain ⟨p,x,r1,r2,r3⟩ := hD.R.weathers.at_ f3
   obtain ⟨_,q,qi,qr⟩ := SlI.use r3
   have hsl : slot < d.weathers[w].length := by rw [(dg.rows _ (qG f3)).1]; omega
   have r4 := qi slot hsl
   have r5 : ∀ L,rd w0 (h ++ L) (q.add slot) = some (.int .i64 (wAt d w slot)) := fun L => by rw [vB f3 hsl]; exact qr slot hsl L
   have hop := (dg.rows _ (qG f3)).2 _ (qG hsl)
   rw [← vB f3 hsl] at hop
   refine jT aM [0,1,2,3,4,5,6,7,11,8,9,10,12,13,14] [o_ 32 (l_ 4),o_ 33 (.load (.t 7) (some 3)),o_ 34 (l_ 4),o_ 35 (.nilck (.t 34)),o_ 36 (.addr (.t 35) 0),o_ 37 (.addr (.t 36) 4),o_ 38 (l_ 37),o_ 39 (l_ 6),o_ 43 (l_ 5),.call (some 40) none (f_ 81) [(.t 39)]] [([(0,o_ 32 (l_ 4)),(1,o_ 33 (.load (.t 7) (some 3))),(2,o_ 34 (l_ 4)),(6,o_ 38 (l_ 37)),(8,o_ 43 (l_ 5))],[o_ 41 (.idxs 1 (.t 38) (.t 40)),o_ 42 (l_ 41),o_ 44 (.idxs 1 (.t 42) (.t 43)),o_ 45 (l_ 44),.call (some 46) none (f_ 80) [(.t 32),(.t 33),(.t 45)]])] rfl rfl (by kernel_rfl) ?_
   simp only [go_sem,ci,r1,r2,r4,r5,p1.1,p2.1,p3.1,p1.2,p2.2,p3.2]
   refine aF (aDc g w (by omega) f1 f2 hg50).v ?_
   simp only [go_sem,ci,r1,r2,r4,r5,p1.1,p2.1,p3.1,p1.2,p2.2,p3.2]
   refine aF (aAn i sv (wAt d w slot) p1 p2 p3).v ?_
   simp only [go_sem]
   refine zD [4,5,6,9,12,46] ?_
   simp only [go_sem]
   refine aBW (fid := 123) (first := []) rfl (.inl rfl) fun hca hcb hps => ?_
   simp only [go_sem]
   obtain ⟨rec_,erec⟩ : ∃ rec_ : LoopState → Option Code → Blk,rec_ = fun st pd => Blk.loop 70 [(4,AV.ptr (Pl.own h.length 0)),(5,AV.ptr (Pl.own (h.length + 1) 0)),(6,AV.ptr (Pl.own (h.length + 2) 0)),(9,AV.ptr (Pl.own (h.length + 4) 0)),(12,AV.ptr (Pl.own (h.length + 5) 0)),(46,AV.fn (Fn.func 123) [] [AV.ptr (Pl.own (h.length + 6) 0),AV.ptr (Pl.own (h.length + 7) 0),AV.ptr (Pl.own (h.length + 8) 0)])] #[47,48] (eM (jY 79) [1,1,1,1,0,1,0,0]) (eM (jY 79) [1,1,1,1,0,1,0,1]) st pd := ⟨_,rfl⟩
   obtain ⟨G,eG⟩ : ∃ G,G = h ++ [some (Blk.row [AV.ptr (Pl.own i 0)]),some (Blk.row [AV.int .i64 (slot : Int)]),some (Blk.row [AV.int .i64 (g : Int)]),some (Blk.row [sv.pl,sv.le,sv.pe]),some (Blk.row (aS key)),some (Blk.row [AV.int .i64 (-1)]),some (Blk.row [AV.ptr (Pl.own i 0)]),some (Blk.row [sv.pl,sv.le,sv.pe]),some (Blk.row [AV.int .i64 (wAt d w slot)]),some (rec_ .ready none)] := ⟨_,rfl⟩
   have eG' := eG
   simp only [erec] at eG'
   rw [← eG']
   have hhG : aB h G := by rw [eG]; exact aB.refl.app
   have gl : G.length = h.length + 10 := by rw [eG]; simp
   have g0 : G[h.length]? = some (some (.row [.ptr (.own i 0)])) := by rw [eG]; simp
   have g1 : G[h.length + 1]? = some (some (.row [.int .i64 (slot : Int)])) := by rw [eG]; simp
   have g2 : G[h.length + 2]? = some (some (.row [.int .i64 (g : Int)])) := by rw [eG]; simp
   have g4 : G[h.length + 4]? = some (some (.row (aS key))) := by rw [eG]; simp
   have g5 : G[h.length + 5]? = some (some (.row [.int .i64 (-1)])) := by rw [eG]; simp
   have g9 : G[h.length + 9]? = some (some (rec_ .ready none)) := by rw [eG]; simp
   have hil := aN hD.hd
   have him : i ≠ im := fun e => by have := hD.hd; rw [e,hM] at this; cases this
   obtain ⟨Cs,eCs⟩ : ∃ Cs,Cs = [h.length + 9,h.length + 5,im] := ⟨_,rfl⟩
   obtain ⟨ns,ens⟩ : ∃ ns,ns = (h.length + 9) :: (h.length + 5) :: ms := ⟨_,rfl⟩
   have hns : ∀ c ∈ ns,c ∈ ms ∨ h.length ≤ c := fun c hc => by rw [ens] at hc; rcases List.mem_cons.1 hc with rfl | hc; exact .inr (by omega); rcases List.mem_cons.1 hc with rfl | hc; exact .inr (by omega); exact .inl hc
   have hCn : ∀ c ∈ Cs,c ∈ ns := fun c hc => by rw [eCs] at hc; rw [ens]; simp at hc; rcases hc with rfl | rfl | rfl; simp; simp; simp [I.n0]
   have hn2 : ∀ c ∈ ns,c < G.length := fun c hc => by rw [ens] at hc; rcases List.mem_cons.1 hc with rfl | hc; omega; rcases List.mem_cons.1 hc with rfl | hc; omega; have := I.n2 c hc; omega
   have hnn' : ∀ c,h.length ≤ c → c ≠ h.length + 9 → c ≠ h.length + 5 → c ∉ ns := fun c h1 h2 h3 hc => by rw [ens] at hc; rcases List.mem_cons.1 hc with rfl | hc; exact h2 rfl; rcases List.mem_cons.1 hc with rfl | hc; exact h3 rfl; have := I.n2 c hc; omega
   have hnC : ∀ c,c ∉ ns → c ∉ Cs := fun c h1 h2 => h1 (hCn c h2)
   have hsG : aB (msk ms h) (msk ns G) := (aB.toK (C := []) hhG).mskm (by simp) hns
   have hDG := I.hD.sub hsG
   have hSG := S.sub hsG
   have hiC : i ∉ Cs := fun hc => by rw [eCs] at hc; simp at hc; omega
   have hiG : G[i]? = some (some (.row (aX v ++ [.map im]))) := hhG.2 _ _ hD.hd
   obtain ⟨KF,eKF⟩ : ∃ KF : Heap → Prop,KF = fun h' => rgE Try.prog w0 none 70 h.length (resK w0 [RV.t 8] (aHH w0 d v i im ms h (dS d k slot g s)))
    [It.inBlk 0, It.code ((SC.draw [true] [MIx.op (some 63) none (MOp.load (Opd.t 4) none), MIx.op (some 64) none (MOp.nilck (Opd.t 63)), MIx.op (some 65) none (MOp.addr (Opd.t 64) 5), MIx.op (some 66) none (MOp.load (Opd.t 65) none), MIx.op (some 67) none (MOp.load (Opd.t 9) (some 10)), MIx.op (some 68) none (MOp.load (Opd.t 12) none),
                MIx.op none none (MOp.mput (true,[true,true,true,true,true,true,true,true,true,true]) (Opd.t 66) (Opd.t 67) (Opd.t 68))] [[],[0],[1,0],[2,1,0],[],[],[3,2,1,0,4,5]]).seq
          ((SC.reg [MIx.op (some 69) none (MOp.load (Opd.t 12) none),MIx.op (some 8) none (MOp.mov (Opd.t 69))]).seq SC.ret))]
    [(4,AV.ptr (Pl.own h.length 0)),(5,AV.ptr (Pl.own (h.length + 1) 0)),(6,AV.ptr (Pl.own (h.length + 2) 0)),(9,AV.ptr (Pl.own (h.length + 4) 0)),(12,AV.ptr (Pl.own (h.length + 5) 0)),(46,AV.fn (Fn.func 123) [] [AV.ptr (Pl.own (h.length + 6) 0),AV.ptr (Pl.own (h.length + 7) 0),AV.ptr (Pl.own (h.length + 8) 0)])]
    h'[h.length + 9]? (h'.set (h.length + 9) none) := ⟨_,rfl⟩
   rw [← eKF]
   refine aCH ns d v (.map im) i s sv (wAt d w slot) (h.length + 9) (h.length + 6) (h.length + 7) (h.length + 8) KF (hs.ok (by omega)) dg.seats (by have := dg.p0; omega) hop.1 (by have := hop.2; omega) hn2 (by rw [bE (hnn' _ (by omega) (by omega) (by omega)),eG]; simp) (by rw [bE (hnn' _ (by omega) (by omega) (by omega)),eG]; simp [stC]) (by rw [bE (hnn' _ (by omega) (by omega) (by omega)),eG]; simp) hDG hSG ?_
   have hun := fun y hy => oM (op := wAt d w slot) dg hs (y := y) hy
   have efin : dS d k slot g s = (cK d s (wAt d w slot)).foldl (gV (bF d k g)) (-1) := by rw [dS,jF,← ew]
   generalize cK d s (wAt d w slot) = us at hun efin
   have claim : ∀ (l : List (List aC × aD)) (O : List Nat) (b : Int) (H : Heap),(∀ y ∈ l,StN d (slot + 1) y.2) → (∀ c ∈ O,G.length ≤ c) → Keep Cs G H → H[h.length + 9]? = some (some (rec_ .ready none)) → H[h.length + 5]? = some (some (.row [.int .i64 b])) → (∃ M,H[im]? = some (some (.map (gW M))) ∧ oI d M) →
    l.foldl (gV (bF d k g)) b = dS d k slot g s → fS Try.prog w0 (h.length + 9) ns (UnYV w0 ns) (fun _ => True) KF l O H := by
    intro l
    induction l with
    | nil =>
     intro O b H _ hO kG h9 h5 hm hb
     intro H2 t2
     have himG : im < G.length := by omega
     have out : ∀ c,c < G.length → c ∉ O := fun c hc hx => by have := hO c hx; omega
     have k9 := t2.at_ _ _ (out _ (by omega)) h9
     have k5 : (H2.set (h.length + 9) none)[h.length + 5]? = some (some (.row [.int .i64 b])) := by rw [qB (by omega)]; exact t2.at_ _ _ (out _ (by omega)) h5
     have kG2 := kG.iter t2 hO
     have k0 : (H2.set (h.length + 9) none)[h.length]? = some (some (.row [.ptr (.own i 0)])) := by rw [qB (by omega)]; exact kG2.at_ _ _ (hnC _ (hnn' _ (by omega) (by omega) (by omega))) g0
     have k4 : (H2.set (h.length + 9) none)[h.length + 4]? = some (some (.row (aS key))) := by rw [qB (by omega)]; exact kG2.at_ _ _ (hnC _ (hnn' _ (by omega) (by omega) (by omega))) g4
     have ki : (H2.set (h.length + 9) none)[i]? = some (some (.row (aX v ++ [.map im]))) := by rw [qB (by omega)]; exact kG2.at_ _ _ hiC hiG
     have km : ∃ M,(H2.set (h.length + 9) none)[im]? = some (some (.map (gW M))) ∧ oI d M := by
      obtain ⟨M,e1,e2⟩ := hm
      exact ⟨M,by rw [qB (by omega)]; exact t2.at_ _ _ (out _ himG) e1,e2⟩
     obtain ⟨M2,emp,hM2⟩ := aGK dg hs hk ekey km
     simp only [List.foldl_nil] at hb
     rw [← hb] at emp
     simp only [ten] at emp
     have k5' : ∀ X,((H2.set (h.length + 9) none).set im X)[h.length + 5]? = some (some (.row [.int .i64 b])) := fun X => by rw [qB (by omega)]; exact k5
     simp only [eKF,k9,erec]
     simp only [go_sem,k0,k4,k5,ki,k10,t10,lC,emp,k5']
     have hHl := kG2.le
     have kf : Keep [im] h ((H2.set (h.length + 9) none).set im (some (.map (gW M2)))) := by
      have : Keep Cs h ((H2.set (h.length + 9) none).set im (some (.map (gW M2)))) := (((aB.toK hhG).trans kG2).set (.inl (by rw [eCs]; simp))).set (.inl (by rw [eCs]; simp))
      exact this.old fun c hc => by rw [eCs] at hc; simp at hc; rcases hc with rfl | rfl | rfl; exact .inr (by omega); exact .inr (by omega); exact .inl (by simp)
     refine ⟨by rw [← hb],kf,I.hD.sub (kf.msk fun c hc => .inl (by simp at hc; subst hc; exact I.n0)),I.n0,fun c hc => by have := I.n2 c hc; have := kf.le; omega,M2,?_,hM2⟩
     rw [qF (by rw [List.length_set]; omega)]
    | cons y l ihl =>
     intro O b H hl hO kG h9 h5 hm hb
     intro H2 args O2 _ t2 h2o h2l ⟨uv,nv,ea,huv,hst⟩
     subst ea
     have himG : im < G.length := by omega
     have out : ∀ c,c < G.length → c ∉ O := fun c hc hx => by have := hO c hx; omega
     have k9 := t2.at_ _ _ (out _ (by omega)) h9
     have k9' := k9
     simp only [erec] at k9
     refine tM (psl := [47,48]) aM rfl aHL aHK aCy.eq_1 R79_0b.eq_1 k9 rfl hps hca hcb fun hb2 ha2 => ?_
     rw [← List.append_nil H2]
     have n1 := Sl.one hst.planes.s
     have n2 := Sl.one hst.legs.s
     have n3 := Sl.one hst.people.s
     obtain ⟨A,eA⟩ : ∃ A,A = H2 ++ [some (Blk.row [nv.pl,nv.le,nv.pe])] := ⟨_,rfl⟩
     have hHA : aB H2 A := by rw [eA]; exact aB.refl.app
     have a9 : A[h.length + 9]? = some (some (rec_ .ready none)) := hHA.2 _ _ k9'
     have a9' := a9
     simp only [erec] at a9'
     simp only [go_sem,n1.1,n2.1,n3.1,n1.2,n2.2,n3.2,← eA,a9']
     obtain ⟨B0,eB0⟩ : ∃ B0,B0 = A.set (h.length + 9) (some (rec_ .busy none)) := ⟨_,rfl⟩
     have eB0' := eB0
     simp only [erec] at eB0'
     rw [← eB0']
     have l9 := aN a9
     have h9C : h.length + 9 ∈ Cs := by rw [eCs]; simp
     have h5C : h.length + 5 ∈ Cs := by rw [eCs]; simp
     have imC : im ∈ Cs := by rw [eCs]; simp
     have k2B : Keep [h.length + 9] H2 B0 := by rw [eB0]; exact hHA.toK.set (.inl (by simp))
     have kG2 := kG.iter t2 hO
     have kGB : Keep Cs G B0 := kG2.trans (k2B.more (by simp [h9C]))
     have e0 : B0[h.length]? = some (some (.row [.ptr (.own i 0)])) := kGB.at_ _ _ (hnC _ (hnn' _ (by omega) (by omega) (by omega))) g0
     have e1 : B0[h.length + 1]? = some (some (.row [.int .i64 (slot : Int)])) := kGB.at_ _ _ (hnC _ (hnn' _ (by omega) (by omega) (by omega))) g1
     have e2 : B0[h.length + 2]? = some (some (.row [.int .i64 (g : Int)])) := kGB.at_ _ _ (hnC _ (hnn' _ (by omega) (by omega) (by omega))) g2
     have hGl := kG2.le
     have e14 : B0[H2.length]? = some (some (.row [nv.pl,nv.le,nv.pe])) := by
      rw [eB0,qB (by omega),eA]; simp
     have e5 : B0[h.length + 5]? = some (some (.row [.int .i64 b])) := k2B.at_ _ _ (by simp) (t2.at_ _ _ (out _ (by omega)) h5)
     have IB : jZ w0 d v i im ns B0 := by
      refine ⟨hDG.sub (kGB.msk fun c hc => .inl (hCn c hc)),hCn _ imC,fun c hc => by have := hn2 c hc; have := kGB.le; omega,?_⟩
      obtain ⟨M,m1,m2⟩ := hm
      exact ⟨M,k2B.at_ _ _ (by simp; omega) (t2.at_ _ _ (out _ himG) m1),m2⟩
     have hst' : StS w0 (msk ns B0) y.2 nv := hst.sub (k2B.msk fun c hc => .inl (by simp at hc; subst hc; exact hCn _ h9C))
     have hcall := B (slot + 1) g y.2 nv ns B0 (by omega) hg50 (hl y (by simp)) IB hst'
     rw [Int.natCast_add,Int.natCast_one] at hcall
     simp only [go_sem,e0,e1,e2,e14,n1.1,n2.1,n3.1,n1.2,n2.2,n3.2]
     refine ⟨(by unfold I64; omega),?_⟩
     refine aR (ACall.vc (first := []) (args := [_,_,_,_]) hcall) ?_
     rintro y2 H3 ⟨rfl,k3,I3⟩
     have b9 : B0[h.length + 9]? = some (some (rec_ .busy none)) := by rw [eB0,qF l9]
     have d9 : H3[h.length + 9]? = some (some (rec_ .busy none)) := k3.at_ _ _ (by simp; omega) b9
     have d5 : H3[h.length + 5]? = some (some (.row [.int .i64 b])) := k3.at_ _ _ (by simp; omega) e5
     have l3 := aN d9
     have kG3 : Keep Cs G H3 := kGB.trans (k3.more (by simp [imC]))
     have k23 : Keep Cs H2 H3 := (k2B.more (by simp [h9C])).trans (k3.more (by simp [imC]))
     have hO2 : ∀ c ∈ O2,G.length ≤ c := fun c hc => (h2o c hc).elim (hO c) fun hx => by have := kG.le; omega
     obtain ⟨c,ec⟩ : ∃ c,c = bF d k g y.2 := ⟨_,rfl⟩
     rw [← ec]
     have fin : ∀ (nb : Int) (F : Heap),nb = gV (bF d k g) b y → Keep [h.length + 5,h.length + 9] H3 F → F[h.length + 9]? = some (some (rec_ .ready none)) → F[h.length + 5]? = some (some (.row [.int .i64 nb])) → Keep ns H2 F ∧ fS Try.prog w0 (h.length + 9) ns (UnYV w0 ns) (fun _ => True) KF l O2 F := fun nb F hnb kF f9 f5 => by
      have kF' : Keep Cs H3 F := kF.more (by simp [h5C,h9C])
      refine ⟨(k23.trans kF').more hCn,ihl O2 nb F (fun z hz => hl z (List.mem_cons_of_mem _ hz)) hO2 (kG3.trans kF') f9 f5 ?_ (by rw [hnb]; simpa using hb)⟩
      obtain ⟨M,m1,m2⟩ := I3.memo
      exact ⟨M,kF.at_ _ _ (by simp; omega) m1,m2⟩
     have store : ∀ (nb : Int),nb = gV (bF d k g) b y → Keep ns H2 ((H3.set (h.length + 5) (some (.row [.int .i64 nb]))).set (h.length + 9) (some (rec_ .ready none))) ∧ fS Try.prog w0 (h.length + 9) ns (UnYV w0 ns) (fun _ => True) KF l O2 ((H3.set (h.length + 5) (some (.row [.int .i64 nb]))).set (h.length + 9) (some (rec_ .ready none))) := fun nb hnb =>
      fin nb _ hnb ((Keep.refl.set (.inl (by simp))).set (.inl (by simp))) (by rw [qF (by rw [List.length_set]; exact l3)]) (by rw [qB (by omega),qF (by omega)])
     have d9' : ∀ X,(H3.set (h.length + 5) X)[h.length + 9]? = some (some (rec_ .busy none)) := fun X => by rw [qB (by omega)]; exact d9
     simp only [erec] at d9 d9' store
     by_cases hb0 : b < 0
     · simp only [go_sem,d5,hb0,d9',List.append_nil]
       have := store c (by rw [gV,← ec]; simp [hb0])
       exact ⟨this.1,.inl this.2⟩
     · by_cases hcb : c < b
       · simp only [go_sem,d5,hb0,hcb,d9',List.append_nil]
         have := store c (by rw [gV,← ec]; simp [hcb])
         exact ⟨this.1,.inl this.2⟩
       · simp only [go_sem,d5,hb0,hcb,d9,List.append_nil]
         have := fin b (H3.set (h.length + 9) (some (rec_ .ready none))) (by rw [gV,← ec]; simp [hb0,hcb]) (Keep.refl.set (.inl (by simp))) (by rw [qF l3]) (by rw [qB (by omega)]; exact d5)
         simp only [erec] at this
         exact ⟨this.1,.inl this.2⟩
   exact claim us [] (-1) G hun (by simp) Keep.refl g9 g5 ⟨M,hhG.2 _ _ hM,hMok⟩ efin.symm
 · have elook : ∀ L,xZ (h ++ L) ten (.int .i64 0) true (.map im) (.agg (aS key)) = some (.tup [.int .i64 c,.bool true]) := fun L => by
    simp only [xZ,hnn,cm,hf]; rfl
   simp only [ten] at elook
   have hc := (hMok _ _ (List.mem_of_getElem? hj)).2 k slot g s hk hs.s1 hs.s2 hs.s3 ekey.symm
   simp only [go_sem,lC,k10,t10,ci,elook,List.append_nil]
   exact ⟨by rw [hc],aB.refl.app.toK,I.app⟩
theorem vF (d : aO) (v : bO) (i im : Nat) (dg : dC d) : ∀ k,sF w0 d v i im k ∧ aCz w0 d v i im k
 | 0 => ⟨yT d v i im dg,aC5 d v i im 0 dg (yT d v i im dg)⟩
 | k + 1 => by
  have b := aE3 d v i im k dg (vF d v i im dg k).2
  exact ⟨b,aC5 d v i im (k + 1) dg b⟩
theorem GrI.st {H : Heap} {N : Nat} {v : AV} {l : List Int} {C : List Nat} (a : GrI H N v l) (hC : ∀ c ∈ C,c < N) : SlO w0 (msk C H) v l := by
 rcases a with ⟨rfl,rfl⟩ | ⟨hl,id,hid,rfl,hk⟩
 · exact ⟨.inl ⟨rfl,rfl⟩,fun _ => rfl⟩
 · have hk' : (msk C H)[id]? = some (some (.row (aS l))) := by rw [bE (fun hc => by have := hC _ hc; omega)]; exact hk
   exact ⟨(SlN.own (f := false) hk' hl).s,fun e => absurd e hl⟩
theorem GrI.mv {H H' : Heap} {N : Nat} {v : AV} {l : List Int} (a : GrI H N v l) (hk : ∀ (i : Nat) b,N ≤ i → H[i]? = some (some b) → H'[i]? = some (some b)) : GrI H' N v l := by
 rcases a with a | ⟨hl,id,h1,h2,h3⟩
 · exact .inl a
 · exact .inr ⟨hl,id,h1,h2,hk _ _ h1 h3⟩
theorem aDi (d : aO) (v : bO) (m : AV) (i : Nat) (hD : pG w0 h d v m i) (dg : dC d) : ACall Try.prog w0 84 [.ptr (.own i 0)] h fun y H => aB h H ∧ ∃ nv,y = .agg (stC nv) ∧ ∀ C : List Nat,(∀ c ∈ C,c < h.length) → StS w0 (msk C H) (bL d) nv := by
 refine aY aM aIR mf84_b mf84_g (qE rfl) fun hb ha => aU ?_
 have ci : ∀ L,(h ++ L)[i]? = some (some (.row (aX v ++ [m]))) := fun L => aA hD.hd
 have ln1 : fN v.pn = some (.int .i64 d.planes.length) := by simpa using hD.R.planes.use.1
 have ln2 : fN v.pe = some (.int .i64 d.people.length) := by simpa using hD.R.people.use.1
 have pn := dg.pn
 have pe := dg.pe
 simp only [go_sem,mf84,ci,ln1]
 refine ⟨by omega,?_⟩
 have e0 : fL [AV.int .i64 0] d.planes.length = aS (List.replicate d.planes.length 0) := xT _
 rw [e0,beq_self_eq_true]
 obtain ⟨lv,elv⟩ : ∃ lv,lv = AV.sl (.own (h.length + 1) 0) d.planes.length 1 true := ⟨_,rfl⟩
 have olv : one lv = true := by rw [elv]; rfl
 rw [← elv]
 obtain ⟨G,eG⟩ : ∃ G,G = h ++ [some (Blk.row [AV.nilS,AV.nilS,AV.nilS]),some (Blk.row (aS (List.replicate d.planes.length 0))),some (Blk.row [AV.nilS,lv,AV.nilS])] := ⟨_,rfl⟩
 rw [← eG]
 have hhG : aB h G := by rw [eG]; exact aB.refl.app
 have gl : G.length = h.length + 3 := by rw [eG]; simp
 have pl2 := hD.R.planes
 refine cU (S := Heap × AV) (fun j _ => [(0,.ptr (.own i 0)),(2,.ptr (.own h.length 0)),(3,.ptr (.own (h.length + 2) 0)),(20,v.pn),(21,.int .i64 (d.planes.length : Int)),(22,.int .i64 (j : Int))]) (fun _ st => st.1)
  (fun j st => (∀ c b,c < h.length + 2 → G[c]? = some b → st.1[c]? = some b) ∧ h.length + 3 ≤ st.1.length ∧ st.1[h.length + 2]? = some (some (.row [st.2,lv,.nilS])) ∧ GrI st.1 (h.length + 3) st.2 ((d.planes.take j).map (·.at_))) d.planes.length (G,.nilS)
  ⟨fun c b _ e => e,by simp only; omega,by rw [eG]; simp,.inl ⟨rfl,rfl⟩⟩ rfl rfl (fun j st hj I ih => ?_) (fun st I => ?_)
 · obtain ⟨H,gp⟩ := st
   obtain ⟨k1,k2,k3,k4⟩ := I
   simp only at k1 k2 k3 k4 ih ⊢
   refine aE aM aDz [0,2,3,20,21,22] L84_0.eq_1 ?_
   have hH : aB h H := ⟨by omega,fun c b e => k1 c _ (by have := aN e; omega) (hhG.2 c b e)⟩
   obtain ⟨_,q,qi,qr,_⟩ := (pl2.sub hH).use
   have q1 := qi j (by simpa using hj)
   have q2 : rdn w0 H (q.add (j * 5)) 5 = some (d.planes.getD j ⟨0,0,0,0,0⟩).c := qr j _ (by rw [List.getElem?_map,qA hj,aI hj]; rfl)
   have e1 : (j : Int) < d.planes.length := by omega
   obtain ⟨A,eA⟩ : ∃ A,A = H ++ [some (Blk.row (d.planes.getD j ⟨0,0,0,0,0⟩).c),some (Blk.row [.int .i64 (d.planes.getD j ⟨0,0,0,0,0⟩).at_])] := ⟨_,rfl⟩
   have hHA : aB H A := by rw [eA]; exact aB.refl.app
   have b3 := xL k3
   obtain ⟨gp',H',ap,g',gle,gk,go⟩ := (k4.mv (H' := A) fun c b _ e => hHA.2 c b e).add (w0 := w0) (by have := hHA.1; omega) (d.planes.getD j ⟨0,0,0,0,0⟩).at_ (H.length + 1) (by rw [eA]; simp) (by simp; omega)
   have ogp := Sl.one (k4.n.s (w0 := w0))
   have hb' : H'[h.length + 2]? = some (some (.row [gp,lv,.nilS])) := gk _ _ (by omega) (hHA.2 _ _ k3)
   have eA' := eA
   simp only [cL.c] at eA'
   simp only [go_sem,e1,q1,q2,b3,ogp.1,ogp.2]
   rw [← eA']
   have ogp' := Sl.one (g'.n.s (w0 := w0))
   simp only [go_sem,ap,hb',go,ogp'.2,ogp.1,olv]
   refine ⟨(by unfold I64; omega),?_⟩
   have hl' := aN hb'
   have := ih (H'.set (h.length + 2) (some (.row [gp',lv,.nilS])),gp') ⟨fun c b hc e => by
    simp only
    rw [qB (by omega)]
    have e2 := k1 c b hc e
    exact gk c b (by omega) (by rw [eA,qH (by omega)]; exact e2),by simp only; rw [List.length_set]; omega,by simp only; rw [qF hl'],?_⟩
   · simpa using this
   · simp only
     rw [List.take_add_one,qA hj,List.map_append]
     rw [aI hj] at g'
     exact g'.mv fun c b hc e => by rw [qB (by omega)]; exact e
 · obtain ⟨H2,gp⟩ := st
   obtain ⟨k1,k2,k3,k4⟩ := I
   simp only at k1 k2 k3 k4 ⊢
   refine aE aM aDz [0,2,3,20,21,22] L84_0.eq_1 ?_
   have hH2 : aB h H2 := ⟨by omega,fun c b e => k1 c _ (by have := aN e; omega) (hhG.2 c b e)⟩
   have e1 : ¬ (d.planes.length : Int) < d.planes.length := by omega
   have ci2 := hH2.2 _ _ hD.hd
   rw [List.take_length] at k4
   simp only [go_sem,e1,ci2,ln2]
   have ogp := Sl.one (k4.n.s (w0 := w0))
   refine cU (S := Heap × AV) (fun j _ => [(2,.ptr (.own h.length 0)),(3,.ptr (.own (h.length + 2) 0)),(38,v.pe),(39,.int .i64 (d.people.length : Int)),(40,.int .i64 (j : Int))]) (fun _ st => st.1)
    (fun j st => (∀ c b,c < H2.length → c ≠ h.length + 2 → H2[c]? = some b → st.1[c]? = some b) ∧ H2.length ≤ st.1.length ∧ st.1[h.length + 2]? = some (some (.row [gp,lv,st.2])) ∧ GrI st.1 H2.length st.2 ((d.people.take j).map (·.at_))) d.people.length (H2,.nilS)
    ⟨fun c b _ _ e => e,Nat.le_refl _,k3,.inl ⟨rfl,rfl⟩⟩ rfl rfl (fun j st hj I ih => ?_) (fun st I => ?_)
   · obtain ⟨H,ge⟩ := st
     obtain ⟨m1,m2,m3,m4⟩ := I
     simp only at m1 m2 m3 m4 ih ⊢
     refine aE aM aDy [2,3,38,39,40] L84_1.eq_1 ?_
     have hH : aB h H := ⟨by omega,fun c b e => m1 c _ (by have := aN e; omega) (by have := aN e; omega) (hH2.2 c b e)⟩
     obtain ⟨_,q,qi,qr,_⟩ := (hD.R.people.sub hH).use
     have q1 := qi j (by simpa using hj)
     have q2 : rdn w0 H (q.add (j * 5)) 5 = some (d.people.getD j ⟨0,0,0,0,0⟩).c := qr j _ (by rw [List.getElem?_map,qA hj,aI hj]; rfl)
     have e2 : (j : Int) < d.people.length := by omega
     obtain ⟨A,eA⟩ : ∃ A,A = H ++ [some (Blk.row (d.people.getD j ⟨0,0,0,0,0⟩).c),some (Blk.row [.int .i64 (d.people.getD j ⟨0,0,0,0,0⟩).at_])] := ⟨_,rfl⟩
     have hHA : aB H A := by rw [eA]; exact aB.refl.app
     have b3 := xL m3
     obtain ⟨ge',H',ap,g',gle,gk,go⟩ := (m4.mv (H' := A) fun c b _ e => hHA.2 c b e).add (w0 := w0) (by have := hHA.1; omega) (d.people.getD j ⟨0,0,0,0,0⟩).at_ (H.length + 1) (by rw [eA]; simp) (by simp; omega)
     have oge := Sl.one (m4.n.s (w0 := w0))
     have hb' : H'[h.length + 2]? = some (some (.row [gp,lv,ge])) := gk _ _ (by omega) (hHA.2 _ _ m3)
     have eA' := eA
     simp only [dF.c] at eA'
     simp only [go_sem,e2,q1,q2,b3,oge.1,oge.2]
     rw [← eA']
     have oge' := Sl.one (g'.n.s (w0 := w0))
     simp only [go_sem,ap,hb',go,oge'.2,oge.1,ogp.1,olv]
     refine ⟨(by unfold I64; omega),?_⟩
     have hl' := aN hb'
     have := ih (H'.set (h.length + 2) (some (.row [gp,lv,ge'])),ge') ⟨fun c b hc hne e => by
      simp only
      rw [qB (Ne.symm hne)]
      have e2 := m1 c b hc hne e
      exact gk c b (by omega) (by rw [eA,qH (by omega)]; exact e2),by simp only; rw [List.length_set]; have := hHA.1; omega,by simp only; rw [qF hl'],?_⟩
     · simpa using this
     · simp only
       rw [List.take_add_one,qA hj,List.map_append]
       rw [aI hj] at g'
       exact g'.mv fun c b hc e => by rw [qB (by omega)]; exact e
   · obtain ⟨H,ge⟩ := st
     obtain ⟨m1,m2,m3,m4⟩ := I
     simp only at m1 m2 m3 m4 ⊢
     refine aE aM aDy [2,3,38,39,40] L84_1.eq_1 ?_
     have e2 : ¬ (d.people.length : Int) < d.people.length := by omega
     rw [List.take_length] at m4
     have oge := Sl.one (m4.n.s (w0 := w0))
     have b0 : H[h.length]? = some (some (.row [.nilS,.nilS,.nilS])) := m1 _ _ (by omega) (by omega) (k1 _ _ (by omega) (by rw [eG]; simp))
     have b1 : H[h.length + 1]? = some (some (.row (aS (List.replicate d.planes.length 0)))) := m1 _ _ (by omega) (by omega) (k1 _ _ (by omega) (by rw [eG]; simp))
     have hl0 := aN b0
     have hs : ∀ X,(H.set h.length X)[h.length]? = some X := fun X => qF hl0
     simp only [go_sem,e2,m3,ogp.1,olv,oge.1,b0,hs]
     obtain ⟨F,eF⟩ : ∃ F,F = H.set h.length (some (.row [gp,lv,ge])) := ⟨_,rfl⟩
     rw [← eF]
     have hHF : aB h F := by
      rw [eF]
      exact aB.setR ⟨by omega,fun c b e => m1 c _ (by have := aN e; omega) (by have := aN e; omega) (hH2.2 c b e)⟩ (Nat.le_refl _)
     refine ⟨hHF,⟨gp,lv,ge⟩,rfl,fun C hC => ⟨?_,?_,?_⟩⟩
     · refine GrI.st (N := h.length + 3) (k4.mv fun c b hc e => ?_) fun c hc => by have := hC c hc; omega
       rw [eF,qB (by omega)]
       exact m1 c _ (aN e) (by omega) e
     · have hF1 : (msk C F)[h.length + 1]? = some (some (.row (aS (List.replicate d.planes.length 0)))) := by
        rw [bE (fun hc => by have := hC _ hc; omega),eF,qB (by omega)]; exact b1
       have := eP (w0 := w0) (H := msk C F) (full := true) (io := h.length + 1) (rows := (List.replicate d.planes.length (0 : Int)).map fun z => [AV.int .i64 z]) (es := 1) (by rw [← dL]; exact hF1) (fun c hc => by obtain ⟨x,_,rfl⟩ := List.mem_map.1 hc; rfl)
       simp only [bL]
       rw [elv]
       refine ⟨by simpa [SlI] using this,fun e => ?_⟩
       have hz : d.planes.length = 0 := by simpa using congrArg List.length e
       rw [hz] at hF1 ⊢
       simp [srcOf,eQ,rdn,hF1]
     · refine GrI.st (N := H2.length) (m4.mv fun c b hc e => ?_) fun c hc => by have := hC c hc; omega
       rw [eF,qB (by omega)]; exact e
theorem iZ.rest {H : Heap} {N : Nat} {y : AV} {l : List Int} (b : l ≠ [] → ∃ io,N ≤ io ∧ io < H.length ∧ y = .sl (.own io 0) l.length 1 false ∧ H[io]? = some (some (.row (aS l)))) (z : l = [] → y = .nilS ∨ ∃ io f c,N ≤ io ∧ y = .sl (.own io 0) 0 1 f ∧ H[io]? = some (some (.row c))) : iZ w0 H N y l := by
 refine ⟨?_,b,z⟩
 by_cases hl : l = []
 · rcases z hl with rfl | ⟨io,f,c,h1,rfl,h2⟩
   · subst hl; exact ⟨.inl ⟨rfl,rfl⟩,fun _ => rfl⟩
   · subst hl
     exact ⟨.inr ⟨.own io 0,f,⟨1,rfl,rfl⟩,aN h2,fun j c hc => by simp at hc⟩,fun _ => by simp [srcOf,eQ,rdn,h2]⟩
 · obtain ⟨io,h1,h2,h3,h4⟩ := b hl
   rw [h3]
   exact ⟨(SlN.own (f := false) h4 hl).s,fun e => absurd e hl⟩
theorem iZ.keep {C : List Nat} {H H' : Heap} {N : Nat} {y : AV} {l : List Int} (a : iZ w0 H N y l) (t : Keep C H H') (hC : ∀ c ∈ C,c < N) : iZ w0 H' N y l := by
 have out : ∀ i,N ≤ i → i ∉ C := fun i hi hc => by have := hC i hc; omega
 refine iZ.rest (fun e => ?_) fun e => ?_
 · obtain ⟨io,h1,h2,h3,h4⟩ := a.b e
   exact ⟨io,h1,Nat.lt_of_lt_of_le h2 t.le,h3,t.at_ _ _ (out io h1) h4⟩
 · rcases a.z e with h1 | ⟨io,f,c,h1,h2,h3⟩
   · exact .inl h1
   · exact .inr ⟨io,f,c,h1,h2,t.at_ _ _ (out io h1) h3⟩
theorem iZ.less {H : Heap} {N M : Nat} {y : AV} {l : List Int} (a : iZ w0 H N y l) (h : M ≤ N) : iZ w0 H M y l :=
 ⟨a.o,fun e => by obtain ⟨io,h1,h2⟩ := a.b e; exact ⟨io,by omega,h2⟩,fun e => (a.z e).imp (fun x => x) fun ⟨io,f,c,h1,h2⟩ => ⟨io,f,c,by omega,h2⟩⟩
structure UnO (w0 : World) (H : Heap) (N : Nat) (y : AV) (u : List aC) : Prop where
 b : ∃ (io : Nat) (f : Bool) (rows : List (List AV)),N ≤ io ∧ y = .sl (.own io 0) u.length 2 f ∧ H[io]? = some (some (.row rows.flatten)) ∧ rows.length = u.length ∧ (∀ c ∈ rows,c.length = 2) ∧ ∀ (j : Nat) x,u[j]? = some x → ∃ pv,rows[j]? = some [.int .i64 x.to,pv] ∧ iZ w0 H N pv x.people
theorem UnO.keep {C : List Nat} {H H' : Heap} {N : Nat} {y : AV} {u : List aC} (a : UnO w0 H N y u) (t : Keep C H H') (hC : ∀ c ∈ C,c < N) : UnO w0 H' N y u := by
 obtain ⟨io,f,rows,h1,h2,h3,h4,h5,h6⟩ := a.b
 exact ⟨io,f,rows,h1,h2,t.at_ _ _ (fun hc => by have := hC _ hc; omega) h3,h4,h5,fun j x hx => by
  obtain ⟨pv,e1,e2⟩ := h6 j x hx
  exact ⟨pv,e1,e2.keep t hC⟩⟩
theorem UnO.less {H : Heap} {N M : Nat} {y : AV} {u : List aC} (a : UnO w0 H N y u) (h : M ≤ N) : UnO w0 H M y u := by
 obtain ⟨io,f,rows,h1,h2,h3,h4,h5,h6⟩ := a.b
 exact ⟨io,f,rows,by omega,h2,h3,h4,h5,fun j x hx => by
  obtain ⟨pv,e1,e2⟩ := h6 j x hx
  exact ⟨pv,e1,e2.less h⟩⟩
theorem iZ.msk {C : List Nat} {H : Heap} {N : Nat} {y : AV} {l : List Int} (a : iZ w0 H N y l) (hC : ∀ c ∈ C,c < N) : SlO w0 (Ab.msk C H) y l := by
 have out : ∀ i,N ≤ i → (Ab.msk C H)[i]? = H[i]? := fun i hi => bE fun hc => by have := hC i hc; omega
 refine (iZ.rest (N := N) (H := Ab.msk C H) (w0 := w0) (fun e => ?_) fun e => ?_).o
 · obtain ⟨io,h1,h2,h3,h4⟩ := a.b e
   exact ⟨io,h1,by rw [fM]; exact h2,h3,by rw [out _ h1]; exact h4⟩
 · rcases a.z e with h1 | ⟨io,f,c,h1,h2,h3⟩
   · exact .inl h1
   · exact .inr ⟨io,f,c,h1,h2,by rw [out _ h1]; exact h3⟩
theorem UnO.p {C : List Nat} {H : Heap} {N : Nat} {y : AV} {u : List aC} (a : UnO w0 H N y u) (hC : ∀ c ∈ C,c < N) : UnP w0 (msk C H) y u := by
 obtain ⟨io,f,rows,h1,rfl,h3,h4,h5,h6⟩ := a.b
 have hk : (msk C H)[io]? = some (some (.row rows.flatten)) := by rw [bE fun hc => by have := hC _ hc; omega]; exact h3
 refine ⟨⟨rows,h4,?_,fun j x c hx hc => ?_⟩,fun e => ?_,by simp⟩
 · have := eP (w0 := w0) (H := msk C H) (full := f) (io := io) (rows := rows) (es := 2) hk h5
   rwa [h4] at this
 · obtain ⟨pv,e1,e2⟩ := h6 j x hx
   rw [e1] at hc; cases hc
   exact ⟨pv,rfl,e2.msk hC⟩
 · subst e
   simp [srcOf,eQ,rdn,hk]
theorem aED {rows : List (List AV)} (h : ∀ c ∈ rows,c.length = 2) {j : Nat} {a b : AV} (hj : rows[j]? = some [a,b]) : rows.flatten[j * 2 + 1]? = some b := by
 induction rows generalizing j with
 | nil => simp at hj
 | cons c rows ih =>
  have hc := h c List.mem_cons_self
  cases j with
  | zero => simp at hj; subst hj; rfl
  | succ j =>
   have := ih (fun x hx => h x (List.mem_cons_of_mem _ hx)) (j := j) (by simpa using hj)
   rw [List.flatten_cons,qI (by omega),hc,show (j + 1) * 2 + 1 - 2 = j * 2 + 1 by omega]; exact this
theorem aEC {rows : List (List AV)} (h : ∀ c ∈ rows,c.length = 2) {j : Nat} {a b b' : AV} (hj : rows[j]? = some [a,b]) : rows.flatten.take (j * 2 + 1) ++ (b' :: rows.flatten.drop (j * 2 + 1 + 1)) = (rows.set j [a,b']).flatten := by
 induction rows generalizing j with
 | nil => simp at hj
 | cons c rows ih =>
  cases j with
  | zero => simp at hj; subst hj; simp
  | succ j =>
   have hc := h c List.mem_cons_self
   obtain ⟨x,y,rfl⟩ : ∃ x y,c = [x,y] := by
    match c,hc with
    | [x,y],_ => exact ⟨x,y,rfl⟩
   have := ih (fun x hx => h x (List.mem_cons_of_mem _ hx)) (j := j) (by simpa using hj)
   rw [show (j + 1) * 2 + 1 = j * 2 + 1 + 1 + 1 by omega,show j * 2 + 1 + 1 + 1 + 1 = j * 2 + 1 + 1 + 1 + 1 by omega]
   simp only [List.flatten_cons,List.cons_append,List.nil_append,List.take_succ_cons,List.drop_succ_cons,List.set_cons_succ,this]
theorem aIa (u : List aC) (v : AV) (hv : UnP w0 h v u) (hl : u.length < 1000) : ACall Try.prog w0 126 [v] h fun y H => aB h H ∧ ∃ (io : Nat) (f : Bool) (rows : List (List AV)),h.length ≤ io ∧ y = .sl (.own io 0) u.length 2 f ∧ H[io]? = some (some (.row rows.flatten)) ∧ rows.length = u.length ∧ (∀ c ∈ rows,c.length = 2) ∧
 ∀ (j : Nat) x,u[j]? = some x → ∃ pv,rows[j]? = some [.int .i64 x.to,pv] ∧ SlO w0 h pv x.people := by
 refine aY aM aGl aJ2 aJ1 (qE rfl) fun hb ha => aU ?_
 obtain ⟨rows,r1,r2,r3⟩ := hv.n
 have r2' := r2
 rcases r2 with ⟨rfl,e2⟩ | ⟨p,full,⟨es',e1,he⟩,hp,hr⟩
 · exact absurd rfl hv.nn
 · have two : ∀ c ∈ rows,c.length = 2 ∧ c.all one = true ∧ ∃ j,∃ x,u[j]? = some x ∧ rows[j]? = some c ∧ FlgtO w0 h x c := fun c hc => by
    obtain ⟨j,hj,rfl⟩ := List.mem_iff_getElem.1 hc
    have hju : j < u.length := by omega
    obtain ⟨pv,e3,e4⟩ := r3 j u[j] rows[j] (qA hju) (qA hj)
    have o4 := Sl.one e4.s
    refine ⟨by rw [e3]; rfl,by rw [e3]; simp only [List.all_cons,List.all_nil,o4.1,Bool.and_true]; rfl,j,u[j],qA hju,qA hj,pv,e3,e4⟩
   by_cases hu0 : u = []
   · have h0 := xK (hv.e hu0) (aB.refl.app (L := [some (.row [])]))
     have hap : dH w0 (h ++ [some (Blk.row [])]) 2 32 (AV.sl (Pl.own (List.length h) 0) 0 2 true) v = some (AV.sl (Pl.own (List.length h) 0) 0 2 true,h ++ [some (Blk.row [])]) := by
      simp [dH,h0]
     rw [e1] at hap
     subst e1
     simp only [go_sem,mf126]
     rw [hap]
     simp only [go_sem]
     subst hu0
     exact ⟨aB.refl.app,h.length,true,[],Nat.le_refl _,rfl,by simp,rfl,by simp,fun j x hx => by simp at hx⟩
   · have hr0 : rows ≠ [] := fun e => hu0 (List.eq_nil_of_length_eq_zero (by rw [← r1,e]; rfl))
     have hap := wT (w0 := w0) (H := h ++ [some (.row [])]) (es := 2) (b := 32) (n := 0) (old := []) (rows := rows) (p := .own h.length 0) (y := v) r2'.app hr0 (fun c hc => (two c hc).2.1) (by simp [rdn]) (by omega) (by omega)
     rw [e1] at hap
     subst e1
     simp only [go_sem,mf126]
     rw [hap]
     simp only [go_sem]
     exact ⟨aB.refl.app,h.length + 1,false,rows,by omega,by rw [r1],by simp,r1,fun c hc => (two c hc).1,fun j x hx => by
      have hj : j < rows.length := by rw [r1]; exact aN hx
      obtain ⟨pv,e3,e4⟩ := r3 j x rows[j] hx (qA hj)
      exact ⟨pv,by rw [qA hj,e3],e4⟩⟩
theorem aHh (u : List aC) (v : AV) (hv : UnP w0 h v u) (hl : u.length < 1000) (hp : ∀ x ∈ u,x.people.length < 1000) : ACall Try.prog w0 83 [v] h fun y H => aB h H ∧ UnO w0 H h.length y u := by
 refine aY aM aIS mf83_b mf83_g (qE rfl) fun hb ha => aU ?_
 simp only [go_sem,mf83]
 rw [List.append_nil]
 refine aR (ACall.vc (first := []) (args := [_]) (aIa u v hv hl)) ?_
 rintro y H ⟨sH,io,f,rows,i1,rfl,i3,i4,i5,i6⟩
 simp only [go_sem]
 refine cU (S := Heap × List (List AV)) (fun j _ => [(3,.sl (.own io 0) u.length 2 f),(8,.int .i64 (u.length : Int)),(9,.int .i64 (j : Int))]) (fun _ st => st.1)
  (fun j st => Keep [io] H st.1 ∧ st.1[io]? = some (some (.row st.2.flatten)) ∧ st.2.length = u.length ∧ (∀ c ∈ st.2,c.length = 2) ∧ ∀ (q : Nat) x,u[q]? = some x → ∃ pv,st.2[q]? = some [.int .i64 x.to,pv] ∧ ((q < j ∧ iZ w0 st.1 H.length pv x.people) ∨ (j ≤ q ∧ SlO w0 h pv x.people))) u.length (H,rows)
  ⟨Keep.refl,i3,i4,i5,fun q x hx => by obtain ⟨pv,e1,e2⟩ := i6 q x hx; exact ⟨pv,e1,.inr ⟨Nat.zero_le _,e2⟩⟩⟩ rfl rfl (fun j st hj I ih => ?_) (fun st I => ?_)
 · obtain ⟨H2,rs⟩ := st
   obtain ⟨k1,k2,k3,k4,k5⟩ := I
   simp only at k1 k2 k3 k4 k5 ih ⊢
   refine aE aM aDA [3,8,9] L83_0.eq_1 ?_
   have e1 : (j : Int) < u.length := by omega
   have ix : bT 2 (.sl (.own io 0) u.length 2 f) (some j) = some (.ptr (.own io (j * 2))) := by simp [bT,eQ,Pl.add,hj]
   obtain ⟨pv,r1,r2⟩ := k5 j u[j] (qA hj)
   have r3 : SlO w0 h pv u[j].people := by
    rcases r2 with ⟨h1,_⟩ | ⟨_,h2⟩
    · omega
    · exact h2
   have g1 := aED k4 r1
   have fl : rs.flatten.length = u.length * 2 := by rw [aA0 k4,k3]
   have hh2 : aB h H2 := ⟨Nat.le_trans sH.1 k1.le,fun c b e => k1.at_ c b (by simp; have := aN e; omega) (sH.2 c b e)⟩
   have cell : zX (some (some (.row rs.flatten))) (j * 2 + 1) = some pv := by simp [zX,g1]
   simp only [go_sem,e1,ix,k2,cell]
   refine aR (ACall.vc (first := []) (args := [_]) (uX u[j].people pv (r3.sub hh2) (by have := hp _ (qG hj); omega))) ?_
   rintro pv' H3 ⟨s3,o3⟩
   have c2 : H3[io]? = some (some (.row rs.flatten)) := s3.2 _ _ k2
   have op := Sl.one o3.o.s
   have hset := aEC (b' := pv') k4 r1
   have hH2 := k1.le
   simp only [go_sem,ix,c2,op.2,op.1,fl,hset]
   refine ⟨by omega,(by unfold I64; omega),?_⟩
   have := ih (H3.set io (some (.row (rs.set j [.int .i64 u[j].to,pv']).flatten)),rs.set j [.int .i64 u[j].to,pv']) ⟨(k1.trans s3.toK).set (.inl (by simp)),by simp only; rw [qF (aN c2)],by simp only; rw [List.length_set,k3],fun c hc => ?_,fun q x hx => ?_⟩
   · simpa using this
   · rcases List.mem_or_eq_of_mem_set hc with hc | rfl
     · exact k4 c hc
     · rfl
   · simp only
     have hio : io < H.length := aN i3
     have kk : Keep [io] H2 (H3.set io (some (.row (rs.set j [.int .i64 u[j].to,pv']).flatten))) := s3.toK.set (.inl (by simp))
     by_cases e : q = j
     · subst e
       rw [qA hj] at hx
       cases hx
       refine ⟨pv',by rw [qF (by omega)],.inl ⟨by omega,?_⟩⟩
       exact (o3.less hH2).keep (Keep.refl.set (C := [io]) (.inl (by simp))) (by simp; exact hio)
     · obtain ⟨pw,q1,q2⟩ := k5 q x hx
       refine ⟨pw,by rw [qB (Ne.symm e)]; exact q1,?_⟩
       rcases q2 with ⟨h1,h2⟩ | ⟨h1,h2⟩
       · exact .inl ⟨by omega,h2.keep kk (by simp; exact hio)⟩
       · exact .inr ⟨by omega,h2⟩
 · obtain ⟨H2,rs⟩ := st
   obtain ⟨k1,k2,k3,k4,k5⟩ := I
   simp only at k1 k2 k3 k4 k5 ⊢
   refine aE aM aDA [3,8,9] L83_0.eq_1 ?_
   have e1 : ¬ (u.length : Int) < u.length := by omega
   simp only [go_sem,e1]
   refine ⟨⟨Nat.le_trans sH.1 k1.le,fun c b e => k1.at_ c b (by simp; have := aN e; omega) (sH.2 c b e)⟩,io,f,rs,i1,rfl,k2,k3,k4,fun q x hx => ?_⟩
   obtain ⟨pv,q1,q2⟩ := k5 q x hx
   rcases q2 with ⟨_,h2⟩ | ⟨h1,_⟩
   · exact ⟨pv,q1,h2.less sH.1⟩
   · have := aN hx; omega
def LiU (w0 : World) (ps ms : List Nat) (im iout : Nat) (H : Heap) (gv : AV) (l : List (List aC)) (id : Nat) : Prop :=
 (l = [] ∧ gv = .nilS) ∨ (l ≠ [] ∧ gv = .sl (.own id 0) l.length 1 false ∧ id ∈ ms ∧ id ≠ im ∧ id ≠ iout ∧ ∃ us : List AV,H[id]? = some (some (.row us)) ∧ us.length = l.length ∧ ∀ (j : Nat) u,l[j]? = some u → ∃ y,us[j]? = some y ∧ one y = true ∧ UnP w0 (msk ps H) y u)
structure lI (w0 : World) (ps ms : List Nat) (im : Nat) (H : Heap) (iout W : Nat) (pol : fO) (cells : List AV) : Prop where
 len : pol.length = W
 row : H[iout]? = some (some (.row cells))
 cl : cells.length = W
 ids : ∃ id : Nat → Nat,(∀ (w : Nat) l,pol[w]? = some l → ∃ gv,cells[w]? = some gv ∧ LiU w0 ps ms im iout H gv l (id w)) ∧ ∀ (w w' : Nat) l l',w ≠ w' → pol[w]? = some l → pol[w']? = some l' → l ≠ [] → l' ≠ [] → id w ≠ id w'
 io : iout ∈ ms
 ne : iout ≠ im
 sub : ∀ c ∈ ms,c ∈ ps
 lt : ∀ c ∈ ps,c < H.length
 iml : im < H.length
section
variable {ps ms ns : List Nat} {im iout W : Nat} {H H' : Heap} {pol : fO} {cells : List AV}
theorem LiU.move {gv : AV} {l : List (List aC)} {id : Nat} {ps' ms' : List Nat} (a : LiU w0 ps ms im iout H gv l id) (hm : ∀ c ∈ ms,c ∈ ms') (hk : l ≠ [] → H'[id]? = H[id]?) (hs : aB (msk ps H) (msk ps' H')) : LiU w0 ps' ms' im iout H' gv l id := by
 rcases a with a | ⟨h1,h2,h3,h4,h5,us,h6,h7,h8⟩
 · exact .inl a
 · exact .inr ⟨h1,h2,hm _ h3,h4,h5,us,by rw [hk h1]; exact h6,h7,fun j u hu => by
    obtain ⟨y,e1,e2,e3⟩ := h8 j u hu
    exact ⟨y,e1,e2,e3.sub hs⟩⟩
theorem lI.keep {C : List Nat} (a : lI w0 ps ms im H iout W pol cells) (t : Keep C H H') (hC : ∀ c ∈ C,c ∈ ms → c = im) (hn : ∀ c ∈ ns,c ∈ ps ∨ H.length ≤ c) (hn2 : ∀ c ∈ ps,c ∈ ns) (hn3 : ∀ c ∈ ns,c < H'.length) (hC3 : ∀ c ∈ C,c ∈ ps ∨ H.length ≤ c) : lI w0 ns ms im H' iout W pol cells := by
 obtain ⟨id,i1,i2⟩ := a.ids
 have hs : aB (msk ps H) (msk ns H') := t.mskm hC3 hn
 refine ⟨a.len,t.at_ _ _ (fun hc => a.ne (hC _ hc a.io)) a.row,a.cl,⟨id,fun w l hl => ?_,i2⟩,a.io,a.ne,fun c hc => hn2 c (a.sub c hc),hn3,Nat.lt_of_lt_of_le a.iml t.le⟩
 obtain ⟨gv,g1,g2⟩ := i1 w l hl
 refine ⟨gv,g1,g2.move (fun c hc => hc) (fun hne => ?_) hs⟩
 rcases g2 with ⟨e,_⟩ | ⟨_,_,h3,h4,_,us,h6,_⟩
 · exact absurd e hne
 · rw [h6]; exact t.at_ _ _ (fun hc => h4 (hC _ hc h3)) h6
theorem lI.less (a : lI w0 ps ms im H iout W pol cells) (h1 : ∀ c ∈ ns,c ∈ ps) (h2 : ∀ c ∈ ms,c ∈ ns) : lI w0 ns ms im H iout W pol cells := by
 obtain ⟨id,i1,i2⟩ := a.ids
 refine ⟨a.len,a.row,a.cl,⟨id,fun w l hl => ?_,i2⟩,a.io,a.ne,h2,fun c hc => a.lt c (h1 c hc),a.iml⟩
 obtain ⟨gv,g1,g2⟩ := i1 w l hl
 exact ⟨gv,g1,g2.move (fun c hc => hc) (fun _ => rfl) (jH h1)⟩
theorem lI.add (a : lI w0 ps ms im H iout W pol cells) {w : Nat} {l : List (List aC)} (hw : pol[w]? = some l) {y : AV} {u : List aC} (hy : UnP w0 (msk ps H) y u) (oy : one y = true) {kb : Nat} (hkb : H[kb]? = some (some (.row [y]))) (hl : l.length < 1000000) :
 ∃ gv gv' H',cells[w]? = some gv ∧ (∀ f,dH w0 H 1 24 gv (.sl (.own kb 0) 1 1 f) = some (gv',H')) ∧ one gv' = true ∧ cellsOf gv' = some [gv'] ∧ Keep ms H H' ∧ H'[im]? = H[im]? ∧ H'[iout]? = H[iout]? ∧ H'.length = H.length + 1 ∧
  lI w0 (H.length :: ps) (H.length :: ms) im (H'.set iout (some (.row (cells.set w gv')))) iout W (pol.set w (l ++ [u])) (cells.set w gv') := by
 obtain ⟨id,i1,i2⟩ := a.ids
 obtain ⟨gv,g1,g2⟩ := i1 w l hw
 have hr : rdn w0 H (.own kb 0) (1 * 1) = some [y] := by simp [rdn,hkb]
 have hio := aN a.row
 have hwl : w < pol.length := aN hw
 have hwc : w < cells.length := by rw [a.cl,← a.len]; exact hwl
 obtain ⟨us,H',e1,e2,e3,e4,e5⟩ : ∃ (us : List AV) (H' : Heap),(∀ f,dH w0 H 1 24 gv (.sl (.own kb 0) 1 1 f) = some (.sl (.own H.length 0) (l.length + 1) 1 false,H')) ∧ H'.length = H.length + 1 ∧ H'[H.length]? = some (some (.row (us ++ [y]))) ∧ (us.length = l.length ∧ ∀ (j : Nat) v,l[j]? = some v → ∃ z,us[j]? = some z ∧ one z = true ∧ UnP w0 (msk ps H) z v) ∧
  ∀ c,c < H.length → (l ≠ [] → c ≠ id w) → H'[c]? = H[c]? := by
  rcases g2 with ⟨rfl,rfl⟩ | ⟨hl0,rfl,h3,h4,h5,us,h6,h7,h8⟩
  · exact ⟨[],H ++ [some (.row [y])],fun f => by simp [dH,srcOf,eQ,hr,lA,oy],by simp,by simp,⟨rfl,fun j v hv => by simp at hv⟩,fun c hc _ => qH hc⟩
  · have hr2 : rdn w0 H (.own (id w) 0) l.length = some us := by
     simp only [rdn,h6]
     rw [if_pos (by omega)]
     simp [List.take_of_length_le,h7]
    have hb : (l.length + 1) * (24 + 1) ≤ 2 ^ 40 := by omega
    have hil := aN h6
    refine ⟨us,H.set (id w) none ++ [some (.row (us ++ [y]))],fun f => ?_,by simp,by rw [qI (by simp)]; simp,⟨h7,h8⟩,fun c hc hne => by rw [qH (by rw [List.length_set]; exact hc),qB (Ne.symm (hne hl0))]⟩
    simp [dH,srcOf,eQ,hr,oy,hr2]
    omega
 have hidms : l ≠ [] → id w ∈ ms ∧ id w ≠ im ∧ id w ≠ iout := fun hne => by
  rcases g2 with ⟨e,_⟩ | ⟨_,_,h3,h4,h5,_⟩
  · exact absurd e hne
  · exact ⟨h3,h4,h5⟩
 have kp : Keep ms H H' := ⟨by omega,fun c b hc e => by
  rw [e5 c (aN e) fun hne e' => hc (e' ▸ (hidms hne).1)]; exact e⟩
 have eio : H'[iout]? = H[iout]? := e5 iout hio fun hne => Ne.symm (hidms hne).2.2
 refine ⟨gv,.sl (.own H.length 0) (l.length + 1) 1 false,H',g1,e1,rfl,rfl,kp,?_,eio,e2,?_⟩
 · exact e5 im a.iml fun hne => Ne.symm (hidms hne).2.1
 · obtain ⟨H2,eH2⟩ : ∃ H2,H2 = H'.set iout (some (.row (cells.set w (.sl (.own H.length 0) (l.length + 1) 1 false)))) := ⟨_,rfl⟩
   rw [← eH2]
   have k2 : Keep ms H H2 := by rw [eH2]; exact kp.set (.inl a.io)
   have l2 : H2.length = H.length + 1 := by rw [eH2,List.length_set,e2]
   have hs : aB (msk ps H) (msk (H.length :: ps) H2) := k2.mskm (fun c hc => .inl (a.sub c hc)) fun c hc => by
    rcases List.mem_cons.1 hc with rfl | hc
    · exact .inr (Nat.le_refl _)
    · exact .inl hc
   have out : ∀ c,c ≠ iout → H2[c]? = H'[c]? := fun c hc => by rw [eH2,qB (Ne.symm hc)]
   refine ⟨by rw [List.length_set,a.len],by rw [eH2,qF (by omega)],by rw [List.length_set,a.cl],⟨fun q => if q = w then H.length else id q,fun q m hm => ?_,fun q q' m m' hne hm hm' nm nm' => ?_⟩,List.mem_cons_of_mem _ a.io,a.ne,fun c hc => ?_,fun c hc => ?_,by have := a.iml; omega⟩
   · by_cases e : q = w
     · subst e
       rw [qF hwl] at hm
       cases hm
       refine ⟨_,qF hwc,.inr ⟨by simp,by simp,by simp,?_,?_,us ++ [y],?_,by simp [e4.1],fun j v hv => ?_⟩⟩
       · simp only [if_true]; have := a.iml; omega
       · simp only [if_true]; omega
       · simp only [if_true]; rw [out _ (by omega)]; exact e3
       · by_cases hj : j < l.length
         · rw [qH hj] at hv
           obtain ⟨z,z1,z2,z3⟩ := e4.2 j v hv
           exact ⟨z,by rw [qH (by rw [e4.1]; exact hj)]; exact z1,z2,z3.sub hs⟩
         · have hjl : j = l.length := by have := aN hv; simp at this; omega
           subst hjl
           simp at hv
           subst hv
           exact ⟨y,by rw [qI (by rw [e4.1]; exact Nat.le_refl _),e4.1]; simp,oy,hy.sub hs⟩
     · rw [qB (Ne.symm e)] at hm
       obtain ⟨gq,q1,q2⟩ := i1 q m hm
       refine ⟨gq,by rw [qB (Ne.symm e)]; exact q1,?_⟩
       simp only [if_neg e]
       refine q2.move (fun c hc => List.mem_cons_of_mem _ hc) (fun hne => ?_) hs
       rcases q2 with ⟨e',_⟩ | ⟨_,_,h3,h4,h5,us',h6,_⟩
       · exact absurd e' hne
       · rw [out _ h5]
         exact e5 _ (aN h6) fun hl0 => i2 q w m l e hm hw hne hl0
   · by_cases e : q = w
     · subst e
       simp only [if_true]
       have e' : ¬ q' = q := fun x => hne x.symm
       rw [if_neg e']
       rw [qB hne] at hm'
       obtain ⟨gq,q1,q2⟩ := i1 q' m' hm'
       rcases q2 with ⟨e',_⟩ | ⟨_,_,h3,h4,h5,us',h6,_⟩
       · exact absurd e' nm'
       · have := aN h6; omega
     · rw [qB (Ne.symm e)] at hm
       simp only [if_neg e]
       by_cases e' : q' = w
       · subst e'
         simp only [if_true]
         obtain ⟨gq,q1,q2⟩ := i1 q m hm
         rcases q2 with ⟨e',_⟩ | ⟨_,_,h3,h4,h5,us',h6,_⟩
         · exact absurd e' nm
         · have := aN h6; omega
       · rw [if_neg e']
         rw [qB (Ne.symm e')] at hm'
         exact i2 q q' m m' hne hm hm' nm nm'
   · rcases List.mem_cons.1 hc with rfl | hc
     · simp
     · exact List.mem_cons_of_mem _ (a.sub c hc)
   · rw [l2]
     rcases List.mem_cons.1 hc with rfl | hc
     · omega
     · have := a.lt c hc; omega
end
theorem aHu {Q : Exit → Fr → Heap → Prop} {k : List It} {rr : Option Nat} {nt Z : Nat} {G : Heap} {fr0 : Fr} {ps ms : List Nat} {im iout W w ob : Nat} {pol : fO} {cells : List AV} {l : List (List aC)} {uv : AV} {u : List aC}
 (f5 : fr0.get 5 = .ptr (.own ob 0)) (f15 : fr0.get 15 = .int .i64 (w : Int)) (f13 : fr0.get 13 = uv) (gob : G[ob]? = some (some (.row [.sl (.own iout 0) W 1 true]))) (hob : ob ∉ ms) (P : lI w0 ps ms im G iout W pol cells) (hw : pol[w]? = some l) (hl : l.length < 1000000) (gim : ∃ b,G[im]? = some (some b))
 (hu : UnP w0 G uv u) (hul : u.length < 1000) (hup : ∀ x ∈ u,x.people.length < 1000)
 (KS : List Nat) (hKS : ∀ t ∈ KS,t < 70)
 (hQ : ∀ H id' cells',Keep ms G H → H[im]? = G[im]? → G.length ≤ id' → lI w0 (id' :: ps) (id' :: ms) im H iout W (pol.set w (l ++ [u])) cells' → un Try.prog w0 rr nt Z Q .normal k (iI fr0 KS) H) :
 dr Try.prog w0 rr nt Z Q D77_0 B77_0 k fr0 G := by
 have hwW : w < W := by rw [← P.len]; exact aN hw
 have hms : ∀ c ∈ ms,c < G.length := fun c hc => P.lt c (P.sub c hc)
 have hcw : w < cells.length := by rw [P.cl]; exact hwW
 obtain ⟨gv,hgv⟩ : ∃ gv,cells[w]? = some gv := ⟨_,qA hcw⟩
 have gobL := xL gob
 have i1 : bT 1 (.sl (.own iout 0) W 1 true) (some w) = some (.ptr (.own iout w)) := by simp [bT,eQ,Pl.add,hwW]
 have rw0 : rd w0 G (.own iout w) = some gv := by simp [rd,P.row,hgv]
 refine rY ?_
 refine jT aM [0,1,2,3,4,5,6,7,8,9,10,11] [o_ 70 (l_ 5),o_ 71 (m_ 15),o_ 72 (l_ 5),o_ 73 (m_ 15),o_ 74 (.idxs 1 (.t 72) (.t 73)),o_ 75 (l_ 74),o_ 76 (m_ 13),.call (some 77) none (f_ 83) [(.t 76)]] [([(0,o_ 70 (l_ 5)),(2,o_ 72 (l_ 5)),(5,o_ 75 (l_ 74))],[o_ 78 (.bslice 1 [.nilS] 1 [(0,1,(.t 77))]),o_ 79 (.app 1 [.nilS] 24 (.t 75) (.t 78))]),([(0,o_ 70 (l_ 5))],[o_ 80 (.idxs 1 (.t 70) (.t 71)),.op none none (.store (.t 80) (.t 79) 1)])] rfl rfl (by kernel_rfl) ?_
 simp only [go_sem,f5,f15,f13,gob,gobL,i1,rw0]
 refine aR (ACall.vc (first := []) (args := [_]) (aHh u uv hu hul hup)) ?_
 rintro y H ⟨hs,y4⟩
 have gob1 := hs.2 _ _ gob
 have gob1L := xL gob1
 have row1 := hs.2 _ _ P.row
 have rw1 : rd w0 H (.own iout w) = some gv := by simp [rd,row1,hgv]
 have oy : one y = true ∧ cellsOf y = some [y] := by obtain ⟨_,_,_,_,e,_⟩ := y4.b; rw [e]; exact ⟨rfl,rfl⟩
 obtain ⟨A,eA⟩ : ∃ A,A = H ++ [some (Blk.row [y])] := ⟨_,rfl⟩
 have hA : aB G A := eA ▸ hs.app
 have PH : lI w0 ps ms im A iout W pol cells := P.keep (ns := ps) (C := []) hA.toK (by simp) (fun c hc => .inl hc) (fun c hc => hc) (fun c hc => Nat.lt_of_lt_of_le (P.lt c hc) hA.1) (by simp)
 have y5 : UnO w0 A G.length y u := y4.keep (C := []) (eA ▸ aB.refl.app.toK) (by simp)
 obtain ⟨gv0,gv',H2,a1,a2,a3,a4,a5,a6,a7,a8,a9⟩ := PH.add hw (y5.p fun c hc => P.lt c hc) oy.1 (kb := H.length) (by rw [eA]; simp) hl
 rw [hgv] at a1
 cases a1
 have gob2 := a5.at_ _ _ hob (hA.2 _ _ gob)
 have gob2L := xL gob2
 have row2 : H2[iout]? = some (some (.row cells)) := a7.trans PH.row
 have him : A[im]? = G[im]? := by
  obtain ⟨b,hb'⟩ := gim
  rw [hb']; exact hA.2 _ _ hb'
 have hset : cells.take w ++ gv' :: cells.drop (w + 1) = cells.set w gv' := by
  rw [List.set_eq_take_append_cons_drop,if_pos hcw]
 have h1 : w + 1 ≤ cells.length := by omega
 simp only [go_sem,f5,f15,f13,gob1,gob1L,i1,rw1,oy.1,oy.2]
 rw [← eA]
 simp only [go_sem,a2,f5,f15,f13,gob2,gob2L,i1,a3,a4,row2,hset]
 refine ⟨h1,iI fr0 KS,?_,hQ _ A.length _ (hA.toK.trans (a5.set (.inl P.io))) ?_ hA.1 a9⟩
 · exact aCG [_,_,_,_,_,_,_,_,_,_,_] rfl hKS
 · rw [qB P.ne]; exact a6.trans him
theorem aFj {Q : Exit → Fr → Heap → Prop} {k : List It} {rr : Option Nat} {nt Z : Nat} {G : Heap} {fr0 : Fr} {d : aO} {v : bO} {i im n slot g : Nat} {xs : List Nat} {s : aD} {nv : StV} {xb tb gb nb wb : Nat} {want : Int}
 (f4 : fr0.get 4 = .ptr (.own xb 0)) (f7 : fr0.get 7 = .ptr (.own tb 0)) (f11 : fr0.get 11 = .ptr (.own gb 0)) (f12 : fr0.get 12 = .ptr (.own wb 0)) (f14 : fr0.get 14 = .ptr (.own nb 0))
 (gx : G[xb]? = some (some (.row [.ptr (.own i 0)]))) (gt : G[tb]? = some (some (.row [.int .i64 (slot : Int)]))) (gg : G[gb]? = some (some (.row [.int .i64 (g : Int)]))) (gw : G[wb]? = some (some (.row [.int .i64 want]))) (gn : G[nb]? = some (some (.row (stC nv))))
 (B : sF w0 d v i im n) (hk : slot + 1 + n = aJ d) (sl : slot < 1000) (hg : g < 2 ^ 50) (hs : StN d (slot + 1) s) (I : jZ w0 d v i im xs G) (hst : StS w0 (msk xs G) s nv)
 (KS : List Nat) (hKS : ∀ t ∈ KS,t < 51)
 (hQ : ∀ H,Keep [im] G H → jZ w0 d v i im xs H → un Try.prog w0 rr nt Z Q .normal k ((58,.bool (decide (want < bF d n g s))) :: iI fr0 KS) H) :
 dr Try.prog w0 rr nt Z Q D77_90 B77_90 k fr0 G := by
 obtain ⟨c,ec⟩ : ∃ c,c = bF d n g s := ⟨_,rfl⟩
 rw [← ec] at hQ
 obtain ⟨M,hM,_⟩ := I.memo
 have nim : ∀ {b : Nat} {c : List AV},G[b]? = some (some (.row c)) → b ∉ [im] := fun {b c} e hb => by
  simp at hb; subst hb; rw [hM] at e; cases e
 have hc := B (slot + 1) g s nv xs G hk hg hs I hst
 rw [Int.natCast_add,Int.natCast_one,← ec] at hc
 refine rY ?_
 refine jT aM [0,1,2,3,4,6,5,7] [o_ 51 (l_ 4),o_ 52 (l_ 7),o_ 53 (.bin .add (.t 52) (i_ 1)),o_ 54 (l_ 11),o_ 55 (.load (.t 14) (some 3)),o_ 57 (l_ 12),.call (some 56) none (f_ 82) [(.t 51),(.t 53),(.t 54),(.t 55)]] [([(5,o_ 57 (l_ 12))],[o_ 58 (.bin .gtr (.t 56) (.t 57))])] rfl rfl (by kernel_rfl) ?_
 simp only [go_sem,f4,f7,f11,f12,f14,gx,gt,gg,gw,gn,stC]
 refine ⟨(by unfold I64; omega),?_⟩
 refine aR (ACall.vc (first := []) (args := [_,_,_,_]) hc) ?_
 rintro y H2 ⟨y1,y2,y3⟩
 subst y1
 have gx' := y2.at_ _ _ (nim gx) gx
 have gt' := y2.at_ _ _ (nim gt) gt
 have gg' := y2.at_ _ _ (nim gg) gg
 have gw' := y2.at_ _ _ (nim gw) gw
 have gn' := y2.at_ _ _ (nim gn) gn
 simp only [go_sem,f4,f7,f11,f12,f14,gx',gt',gg',gw',gn',stC]
 refine ⟨_,Wk.cons (aCG [_,_,_,_,_,_,_,_] rfl hKS) rfl,hQ H2 y2 y3⟩
end Go.Proofs.Ab

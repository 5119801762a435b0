/- The own layer under the proofs of this seat, part L: what calls of the program come to on an abstract heap. No condition. -/
import Derived.Test.YtiaaonmbgkealaaK
import Derived.KernelRfl
set_option linter.unusedSimpArgs false
set_option linter.unusedVariables false
namespace Go.Proofs.Ab
open Go Go.Proofs
variable {w0 : World} {h : Heap}
attribute [local irreducible] ACall bY dD bA bX rvC lp rg dr ex un rv
def pF (d : aO) (k slot g : Nat) (s : aD) (x : List aC × aD) : Bool := !decide (dS d k slot g s < bF d k g x.2)
def rK (d : aO) (k g : Nat) (pol : fO) : Option (List aC × aD) → fO
 | none => pol
 | some x => iB d k g x.2 (lH g x.1 pol d.weathers.length)
def iM (d : aO) (k slot : Nat) (s : aD) (pol : fO) (g : Nat) : fO := rK d k g pol ((cK d s (wAt d (gD g d.weathers.length) slot)).find? (pF d k slot g s))
theorem tV {d : aO} {ws slot : Nat} : ∀ n,(cI d ws slot n).2.length ≤ n
 | 0 => Nat.le_refl _
 | n + 1 => by
  have ih := tV (d := d) (ws := ws) (slot := slot) n
  rw [cI]
  split
  · simp; exact ih
  · omega
theorem tI {d : aO} {k ws : Nat} {s : aD} {pol : fO} : iB d (k + 1) ws s pol = (cV d ws (aJ d - (k + 1))).foldl (iM d k (aJ d - (k + 1)) s) pol := by
 rw [iB]
 rfl
def mW : Nat → Nat
 | 0 => 0
 | k + 1 => 6 * (1 + mW k)
theorem wU {g : Nat} {u : List aC} {pol : fO} : ∀ n,(lH g u pol n).length = pol.length
 | 0 => rfl
 | n + 1 => by rw [lH]; split <;> simp [wU n]
theorem nE {g L : Nat} {u : List aC} {pol : fO} (h : ∀ l ∈ pol,l.length ≤ L) : ∀ n w l,(lH g u pol n)[w]? = some l → l.length ≤ L + 1 ∧ (n ≤ w → l.length ≤ L)
 | 0,w,l,e => by have := h l (List.mem_of_getElem? e); exact ⟨by omega,fun _ => this⟩
 | n + 1,w,l,e => by
  rw [lH] at e
  split at e
  · by_cases hw : n = w
    · subst hw
      by_cases hl : n < (lH g u pol n).length
      · rw [qF hl] at e
        cases e
        rw [aI hl]
        have := (nE h n n _ (qA hl)).2 (Nat.le_refl _)
        exact ⟨by simp; omega,fun hh => by omega⟩
      · rw [List.getElem?_eq_none (by rw [List.length_set]; omega)] at e; cases e
    · rw [qB hw] at e
      have := nE h n w l e
      exact ⟨this.1,fun hh => this.2 (by omega)⟩
  · have := nE h n w l e
    exact ⟨this.1,fun hh => this.2 (by omega)⟩
theorem aAW {α : Type} {f : fO → α → fO} {b : Nat} (hf : ∀ (p : fO) a L,(∀ l ∈ p,l.length ≤ L) → ∀ l ∈ f p a,l.length ≤ L + b) : ∀ (az : List α) (p : fO) (L : Nat),(∀ l ∈ p,l.length ≤ L) → ∀ l ∈ az.foldl f p,l.length ≤ L + az.length * b
 | [],p,L,h,l,hl => by have := h l hl; simp; omega
 | a :: az,p,L,h,l,hl => by
  have := aAW hf az (f p a) (L + b) (hf p a L h) l hl
  rw [List.length_cons,Nat.succ_mul]; omega
theorem yR {d : aO} (dg : dC d) : ∀ (k ws : Nat) (s : aD) (pol : fO) (L : Nat),(∀ l ∈ pol,l.length ≤ L) → ∀ l ∈ iB d k ws s pol,l.length ≤ L + mW k
 | 0,ws,s,pol,L,h,l,hl => by rw [iB] at hl; have := h l hl; omega
 | k + 1,ws,s,pol,L,h,l,hl => by
  rw [tI] at hl
  have := aAW (b := 1 + mW k) (fun p g L hp l hl => by
   unfold iM rK at hl
   split at hl
   · have := hp l hl; omega
   · have := yR dg k g _ _ (L + 1) (fun l hl => by
      obtain ⟨w,hw,rfl⟩ := List.mem_iff_getElem.1 hl
      exact (nE hp _ w _ (qA hw)).1) l hl
     omega) _ pol L h l hl
  have hg : (cV d ws (aJ d - (k + 1))).length ≤ 6 := by
   have h6 := dg.w1
   refine Nat.le_trans (tV _) h6
  have := Nat.mul_le_mul_right (1 + mW k) hg
  rw [mW]; omega
structure BuB where
 b3 : Nat
 xb : Nat
 ob : Nat
 bb : Nat
def BuB.args (b : BuB) : List AV := [.ptr (.own b.b3 0),.ptr (.own b.xb 0),.ptr (.own b.ob 0),.ptr (.own b.bb 0)]
structure BuI (w0 : World) (d : aO) (v : bO) (i iout : Nat) (b : BuB) (xs : List Nat) (H : Heap) : Prop where
 h3 : (msk xs H)[b.b3]? = some (some (.row (aX v)))
 hx : (msk xs H)[b.xb]? = some (some (.row [.ptr (.own i 0)]))
 ho : (msk xs H)[b.ob]? = some (some (.row [.sl (.own iout 0) d.weathers.length 1 true]))
 hb : (msk xs H)[b.bb]? = some (some (.row [.fn (.func 77) [] b.args]))
theorem BuI.sub {d : aO} {v : bO} {i iout : Nat} {b : BuB} {xs xs' : List Nat} {H H' : Heap} (a : BuI w0 d v i iout b xs H) (t : aB (msk xs H) (msk xs' H')) : BuI w0 d v i iout b xs' H' := ⟨t.2 _ _ a.h3,t.2 _ _ a.hx,t.2 _ _ a.ho,t.2 _ _ a.hb⟩
def aAi (w0 : World) (d : aO) (v : bO) (i im iout : Nat) (b : BuB) (k : Nat) : Prop := ∀ (slot ws : Nat) (s : aD) (sv : StV) (xs ps ms : List Nat) (h : Heap) (pol : fO) (cells : List AV),slot + k = aJ d → ws < 2 ^ 50 → StN d slot s → jZ w0 d v i im xs h → StS w0 (msk xs h) s sv → BuI w0 d v i iout b xs h →
 lI w0 ps ms im h iout d.weathers.length pol cells → (∀ c ∈ ms,c ∈ xs) → im ∈ ms → ∀ L,(∀ l ∈ pol,l.length ≤ L) → L + mW k < 1000000 →
 ACall Try.prog w0 77 ([.int .i64 (slot : Int),.int .i64 (ws : Int),.agg (stC sv)] ++ b.args) h fun _ H => ∃ (nw : List Nat) (cells' : List AV),(∀ c ∈ nw,h.length ≤ c ∧ c < H.length) ∧ Keep ms h H ∧ jZ w0 d v i im (nw ++ xs) H ∧ lI w0 (nw ++ ps) (nw ++ ms) im H iout d.weathers.length (iB d k ws s pol) cells'
theorem aHp (d : aO) (v : bO) (i im iout : Nat) (b : BuB) (dg : dC d) : aAi w0 d v i im iout b 0 := by
 intro slot ws s sv xs ps ms h pol cells hk hw hs I S U P hmx him LL hpl hLL
 refine aY aM aCW aF2 aF1 (qE rfl) fun hb ha => aU ?_
 have un := bS (ms := xs) (A := h)
 have hD := I.hD.sub un
 obtain ⟨p,x,w1,w2,w3⟩ := uO hD dg
 have p1 := Sl.one (S.sub un).planes.s
 have p2 := Sl.one (S.sub un).legs.s
 have p3 := Sl.one (S.sub un).people.s
 have c3 : ∀ L,(h ++ L)[b.b3]? = some (some (.row (aX v))) := fun L => aA (un.2 _ _ U.h3)
 have e0 : ((slot : Int) == (aJ d : Int)) = true := by simp; omega
 simp only [go_sem,mf77,BuB.args,p1.1,p2.1,p3.1,p1.2,p2.2,p3.2,c3,w1,w2,w3,e0]
 refine ⟨[],cells,by simp,aB.refl.app.toK,by simpa using I.app,?_⟩
 rw [iB]
 exact P.keep (ns := ps) (C := []) aB.refl.app.toK (by simp) (fun c hc => .inl hc) (fun c hc => hc) (fun c hc => by have := P.lt c hc; simp; omega) (by simp)
theorem aHo (d : aO) (v : bO) (i im iout k : Nat) (b : BuB) (dg : dC d) (R : aAi w0 d v i im iout b k) : aAi w0 d v i im iout b (k + 1) := by
 intro slot ws s sv xs ps ms h pol cells hk hw hs I S U P hmx him LL hpl hLL
 refine aY aM aCW aF2 aF1 (qE rfl) fun hb ha => aU ?_
 have un0 := bS (ms := xs) (A := h)
 have hD := I.hD.sub un0
 have hS := S.sub un0
 obtain ⟨p,x,w1,w2,w3⟩ := uO hD dg
 have p1 := Sl.one hS.planes.s
 have p2 := Sl.one hS.legs.s
 have p3 := Sl.one hS.people.s
 have c3 : ∀ L,(h ++ L)[b.b3]? = some (some (.row (aX v))) := fun L => aA (un0.2 _ _ U.h3)
 have cx : ∀ L,(h ++ L)[b.xb]? = some (some (.row [.ptr (.own i 0)])) := fun L => aA (un0.2 _ _ U.hx)
 have e0 : ((slot : Int) == (aJ d : Int)) = false := by simp; omega
 simp only [go_sem,mf77,BuB.args,p1.1,p2.1,p3.1,p1.2,p2.2,p3.2,c3,w1,w2,w3,e0,cx]
 refine aR (ACall.vc (first := []) (args := [_,_,_]) (aAR (h := h ++ [some (Blk.row [.int .i64 (slot : Int)]),some (Blk.row [sv.pl,sv.le,sv.pe])]) d v (.map im) i ws slot (hD.sub aB.refl.app) dg (by omega) hw)) ?_
 rintro y G ⟨sG,gI⟩
 have hhG : aB h G := aB.refl.app.trans sG
 have es : slot = aJ d - (k + 1) := by omega
 obtain ⟨gs,egs⟩ : ∃ gs,gs = cV d ws slot := ⟨_,rfl⟩
 have hgs : ∀ g ∈ gs,_ := fun g hg => tW (d := d) (ws := ws) (slot := slot) (egs ▸ hg)
 have hgl : gs.length ≤ 6 := by
  have := (mY (d := d) (slot := slot) hw d.weathers.length).2
  have h6 := dg.w1
  rw [egs]; exact Nat.le_trans this h6
 have efin : iB d (k + 1) ws s pol = gs.foldl (iM d k slot s) pol := by rw [tI,← es,egs]
 rw [← egs] at gI
 have ln := (SlI.use (gI.n.s (w0 := w0))).1
 rw [List.length_map] at ln
 simp only [go_sem,ln]
 have g0 : G[h.length]? = some (some (.row [.int .i64 (slot : Int)])) := sG.2 _ _ (by simp)
 have g1 : G[h.length + 1]? = some (some (.row (stC sv))) := sG.2 _ _ (by simp [stC])
 have hlt := sG.1
 rw [List.length_append] at hlt
 simp only [List.length_cons,List.length_nil] at hlt
 rw [mW] at hLL
 refine cU (S := Heap × fO × List AV × List Nat) (fun j _ => [(3,.ptr (.own b.b3 0)),(4,.ptr (.own b.xb 0)),(5,.ptr (.own b.ob 0)),(6,.ptr (.own b.bb 0)),(7,.ptr (.own h.length 0)),(9,.ptr (.own (h.length + 1) 0)),(26,y),(27,.int .i64 (gs.length : Int)),(28,.int .i64 (j : Int))]) (fun _ st => st.1)
  (fun j st => (∀ c ∈ st.2.2.2,G.length ≤ c ∧ c < st.1.length) ∧ Keep ms G st.1 ∧ jZ w0 d v i im (st.2.2.2 ++ xs) st.1 ∧ lI w0 (st.2.2.2 ++ ps) (st.2.2.2 ++ ms) im st.1 iout d.weathers.length st.2.1 st.2.2.1 ∧ st.2.1 = (gs.take j).foldl (iM d k slot s) pol ∧ ∀ l ∈ st.2.1,l.length ≤ LL + j * (1 + mW k)) gs.length (G,pol,cells,[])
  ⟨by simp,Keep.refl,by simpa using I.keep (C := []) hhG.toK (by simp) (by obtain ⟨M,e,_⟩ := I.memo; rw [e]; exact hhG.2 _ _ e),by simpa using P.keep (ns := ps) (C := []) hhG.toK (by simp) (fun c hc => .inl hc) (fun c hc => hc) (fun c hc => by have := P.lt c hc; have := hhG.1; omega) (by simp),rfl,by simpa using hpl⟩ rfl rfl (fun j st hj J ih => ?_) (fun st J => ?_)
 · obtain ⟨H,pol',cells',nw⟩ := st
   obtain ⟨n1,kH,IH,PH,ep,lb⟩ := J
   simp only at n1 kH IH PH ep lb ih ⊢
   refine aE aM aDF [3,4,5,6,7,9,26,27,28] L77_2.eq_1 ?_
   have e1 : (j : Int) < gs.length := by omega
   have hmh : ∀ c ∈ ms,c < h.length := fun c hc => I.n2 c (hmx c hc)
   have kHe := kH.le
   have gI2 := gI.keep kH fun c hc => (by have := hmh c hc; rw [List.length_append]; omega)
   obtain ⟨_,q,qi,qr⟩ := SlI.use (gI2.n.s (w0 := w0))
   have hjm : j < (gs.map Int.ofNat).length := by simpa using hj
   have q1 := qi j hjm
   have q2 := qr j hjm []
   rw [List.append_nil] at q2
   have q3 : (gs.map Int.ofNat)[j] = (gs[j] : Int) := by simp
   rw [q3] at q2
   obtain ⟨g,eg⟩ : ∃ g,g = gs[j] := ⟨_,rfl⟩
   rw [← eg] at q2
   obtain ⟨hgb,hg⟩ := hgs g (eg ▸ qG hj)
   have hms0 : ∀ c,h.length ≤ c → c ∉ ms := fun c hc hx => by have := hmh c hx; omega
   have b7 : ∀ L,(H ++ L)[h.length]? = some (some (.row [.int .i64 (slot : Int)])) := fun L => aA (kH.at_ _ _ (hms0 _ (Nat.le_refl _)) g0)
   have b9 : ∀ L,(H ++ L)[h.length + 1]? = some (some (.row (stC sv))) := fun L => aA (kH.at_ _ _ (hms0 _ (by omega)) g1)
   have khH : Keep ms h H := (aB.toK hhG).trans kH
   have hx0 : ∀ c ∈ nw ++ xs,c ∈ xs ∨ h.length ≤ c := fun c hc => by rcases List.mem_append.1 hc with hc | hc; exact .inr (by have := (n1 c hc).1; omega); exact .inl hc
   have sH : aB (msk xs h) (msk (nw ++ xs) H) := khH.mskm (fun c hc => .inl (hmx c hc)) hx0
   have UH := U.sub sH
   have unH := bS (ms := nw ++ xs) (A := H)
   have cx2 : ∀ L,(H ++ L)[b.xb]? = some (some (.row [.ptr (.own i 0)])) := fun L => aA (unH.2 _ _ UH.hx)
   simp only [go_sem,e1,q1,q2,cx2,b7,b9,p1.1,p2.1,p3.1,p1.2,p2.2,p3.2]
   have unx : ∀ {c : Nat},c ∈ nw ++ xs → c < H.length := fun {c} hc => IH.n2 c hc
   have I1 := IH.app (L := [some (Blk.row [.int .i64 (g : Int)])])
   have S1 := S.sub (sH.trans (oT (L := [some (Blk.row [.int .i64 (g : Int)])])))
   refine aR (ACall.vc (first := []) (args := [_,_,_,_]) ((vF d v i im dg k).2 slot g s sv (nw ++ xs) (H ++ [some (Blk.row [.int .i64 (g : Int)])]) (by omega) hg hgb hs I1 S1)) ?_
   rintro y2 H1 ⟨rfl,k1,I2⟩
   obtain ⟨want,ewant⟩ : ∃ want,want = dS d k slot g s := ⟨_,rfl⟩
   rw [← ewant]
   have imx : im ∈ nw ++ xs := IH.n0
   have sH1 : aB (msk (nw ++ xs) H) (msk (nw ++ xs) H1) := (oT (L := [some (Blk.row [.int .i64 (g : Int)])])).trans (k1.msk fun c hc => .inl (by simp at hc; subst hc; exact imx))
   have U1 := UH.sub sH1
   have un1 := bS (ms := nw ++ xs) (A := H1)
   have hD1 := I2.hD.sub un1
   have himh : im < h.length := I.n2 _ I.n0
   have ni : ∀ c,h.length ≤ c → c ∉ [im] := fun c hc hx => by simp at hx; omega
   have d7 : ∀ L,(H1 ++ L)[h.length]? = some (some (.row [.int .i64 (slot : Int)])) := fun L => aA (k1.at_ _ _ (ni _ (Nat.le_refl _)) (b7 _))
   have d9 : ∀ L,(H1 ++ L)[h.length + 1]? = some (some (.row (stC sv))) := fun L => aA (k1.at_ _ _ (ni _ (by omega)) (b9 _))
   have d11 : ∀ L,(H1 ++ L)[H.length]? = some (some (.row [.int .i64 (g : Int)])) := fun L => aA (k1.at_ _ _ (ni _ (by omega)) (by simp))
   have dx : ∀ L,(H1 ++ L)[b.xb]? = some (some (.row [.ptr (.own i 0)])) := fun L => aA (un1.2 _ _ U1.hx)
   have d3 : ∀ L,(H1 ++ L)[b.b3]? = some (some (.row (aX v))) := fun L => aA (un1.2 _ _ U1.h3)
   obtain ⟨f1,f2,f3⟩ := jS d.weathers.length g hgb
   obtain ⟨w,ew⟩ : ∃ w,w = gD g d.weathers.length := ⟨_,rfl⟩
   rw [← ew] at f1 f2 f3
   have hW6 := dg.w1
   have hg50 : g < 2 ^ 50 := Nat.lt_of_lt_of_le hg (Nat.pow_le_pow_right (by omega) (by omega))
   obtain ⟨pw,xw,r1,r2,r3⟩ := hD1.R.weathers.at_ f3
   obtain ⟨_,qw,qwi,qwr⟩ := SlI.use r3
   have hsl : slot < d.weathers[w].length := by rw [(dg.rows _ (qG f3)).1]; omega
   have r4 := qwi slot hsl
   have r5 : ∀ L,rd w0 (H1 ++ L) (qw.add slot) = some (.int .i64 (wAt d w slot)) := fun L => by rw [vB f3 hsl]; exact qwr slot hsl L
   have hop := (dg.rows _ (qG f3)).2 _ (qG hsl)
   rw [← vB f3 hsl] at hop
   simp only [go_sem]
   refine jT aM [0,1,2,3,4,8,5,6,7,9,10,11] [o_ 37 (l_ 4),o_ 38 (.load (.t 9) (some 3)),o_ 39 (.addr (.t 3) 4),o_ 40 (l_ 39),o_ 41 (l_ 11),o_ 45 (l_ 7),.call (some 42) none (f_ 81) [(.t 41)]] [([(0,o_ 37 (l_ 4)),(1,o_ 38 (.load (.t 9) (some 3))),(3,o_ 40 (l_ 39)),(5,o_ 45 (l_ 7))],[o_ 43 (.idxs 1 (.t 40) (.t 42)),o_ 44 (l_ 43),o_ 46 (.idxs 1 (.t 44) (.t 45)),o_ 47 (l_ 46),.call (some 48) none (f_ 80) [(.t 37),(.t 38),(.t 47)]])] rfl rfl (by kernel_rfl) ?_
   simp only [go_sem,dx,d7,d9,d3,d11,p1.1,p2.1,p3.1,p1.2,p2.2,p3.2]
   refine aF (aDc g w (by omega) f1 f2 hg50).v ?_
   simp only [go_sem,dx,d7,d9,d3,d11,r1,r2,r4,r5,p1.1,p2.1,p3.1,p1.2,p2.2,p3.2]
   refine aF (aAn i sv (wAt d w slot) p1 p2 p3).v ?_
   simp only [go_sem]
   refine zD [3,4,5,6,7,9,11,12,26,27,28,48] ?_
   simp only [go_sem]
   refine aBW (fid := 123) (first := []) rfl (.inl rfl) fun hca hcb hps => ?_
   simp only [go_sem]
   obtain ⟨fr0,efr⟩ : ∃ fr0 : Fr,fr0 = [(3,AV.ptr (Pl.own b.b3 0)),(4,AV.ptr (Pl.own b.xb 0)),(5,AV.ptr (Pl.own b.ob 0)),(6,AV.ptr (Pl.own b.bb 0)),(7,AV.ptr (Pl.own h.length 0)),(9,AV.ptr (Pl.own (h.length + 1) 0)),(11,AV.ptr (Pl.own H.length 0)),(12,AV.ptr (Pl.own H1.length 0)),(26,y),(27,AV.int .i64 (gs.length : Int)),(28,AV.int .i64 (j : Int)),
    (48,AV.fn (Fn.func 123) [] [AV.ptr (Pl.own (H1.length + 1) 0),AV.ptr (Pl.own (H1.length + 2) 0),AV.ptr (Pl.own (H1.length + 3) 0)])] := ⟨_,rfl⟩
   obtain ⟨rec_,erec⟩ : ∃ rec_ : LoopState → Option Code → Blk,rec_ = fun st pd => Blk.loop 89 fr0 #[49,50] (eM (jY 77) [1,1,1,0,0,1,1,0,0,1,1,1,0,0]) (eM (jY 77) [1,1,1,0,0,1,1,0,0,1,1,1,0,1]) st pd := ⟨_,rfl⟩
   obtain ⟨G2,eG2⟩ : ∃ G2,G2 = H1 ++ [some (Blk.row [.int .i64 want]),some (Blk.row [AV.ptr (Pl.own i 0)]),some (Blk.row [sv.pl,sv.le,sv.pe]),some (Blk.row [AV.int .i64 (wAt d w slot)]),some (rec_ .ready none)] := ⟨_,rfl⟩
   have eG2' := eG2
   simp only [erec,efr] at eG2'
   rw [← eG2',← efr]
   have hG2 : aB H1 G2 := by rw [eG2]; exact aB.refl.app
   have gl2 : G2.length = H1.length + 5 := by rw [eG2]; simp
   have m0 : G2[H1.length]? = some (some (.row [.int .i64 want])) := by rw [eG2]; simp
   have m4 : G2[H1.length + 4]? = some (some (rec_ .ready none)) := by rw [eG2]; simp
   have hA1 := k1.le
   rw [List.length_append] at hA1
   simp only [List.length_cons,List.length_nil] at hA1
   obtain ⟨qq,eqq⟩ : ∃ qq,qq = H1.length + 4 := ⟨_,rfl⟩
   rw [← eqq] at m4 ⊢
   obtain ⟨tl,etl⟩ : ∃ tl : List It,tl = [It.inBlk 2,It.inBlk 1,It.code (SC.reg [MIx.op (some 88) none (MOp.bin BinOp.add (Opd.t 28) (Opd.k (AV.int IntKind.i64 1))),MIx.op (some 28) none (MOp.mov (Opd.t 88))]),It.inLoop [3,4,5,6,7,9,26,27,28] L77_2,It.inBlk 0] := ⟨_,rfl⟩
   rw [← etl]
   obtain ⟨QQ,eQQ⟩ : ∃ QQ,QQ = resK w0 [] fun (_ : AV) H => ∃ (nw : List Nat) (cells' : List AV),(∀ c ∈ nw,h.length ≤ c ∧ c < H.length) ∧ Keep ms h H ∧ jZ w0 d v i im (nw ++ xs) H ∧ lI w0 (nw ++ ps) (nw ++ ms) im H iout d.weathers.length (iB d (k + 1) ws s pol) cells' := ⟨_,rfl⟩
   rw [← eQQ] at ih ⊢
   have hend : ∀ (e : Exit) (H' : Heap) (cells2 : List AV) (nw2 : List Nat),e = .normal ∨ e = .exit 2 → (∀ c ∈ nw2,G.length ≤ c ∧ c < H'.length) → Keep ms G H' → jZ w0 d v i im (nw2 ++ xs) H' → lI w0 (nw2 ++ ps) (nw2 ++ ms) im H' iout d.weathers.length (iM d k slot s pol' g) cells2 → un Try.prog w0 none 89 h.length QQ e tl fr0 H' := by
    intro e H' cells2 nw2 he a1 a2 a3 a4
    have hin : (gs.take (j + 1)).foldl (iM d k slot s) pol = iM d k slot s pol' g := by
     rw [List.take_add_one,qA hj,List.foldl_append,← ep,← eg]; rfl
    have hlb : ∀ l ∈ iM d k slot s pol' g,l.length ≤ LL + (j + 1) * (1 + mW k) := fun l hl => by
     have h1 : ∀ l ∈ iM d k slot s pol' g,l.length ≤ (LL + j * (1 + mW k)) + (1 + mW k) := fun l hl => by
      unfold iM rK at hl
      split at hl
      · have := lb l hl; omega
      · have := yR dg k g _ _ (LL + j * (1 + mW k) + 1) (fun l hl => by
         obtain ⟨w,hw,rfl⟩ := List.mem_iff_getElem.1 hl
         exact (nE lb _ w _ (qA hw)).1) l hl
        omega
     have := h1 l hl
     rw [Nat.succ_mul]; omega
    have := ih (H',iM d k slot s pol' g,cells2,nw2) ⟨a1,a2,a3,a4,hin.symm,hlb⟩
    rw [etl,efr]
    rcases he with rfl | rfl
    · simp only [go_sem]
      exact ⟨(by unfold I64; omega),by simpa using this⟩
    · simp only [go_sem]
      exact ⟨(by unfold I64; omega),by simpa using this⟩
   obtain ⟨KF,eKF⟩ : ∃ KF : Heap → Prop,KF = fun h' => rgE Try.prog w0 none 89 h.length QQ tl fr0 h'[qq]? (h'.set qq none) := ⟨_,rfl⟩
   rw [← eKF]
   obtain ⟨C,eC⟩ : ∃ C,C = qq :: (nw ++ xs) := ⟨_,rfl⟩
   have hCl : ∀ c ∈ C,c < G2.length := fun c hc => by rw [eC] at hc; rcases List.mem_cons.1 hc with rfl | hc; omega; have := unx hc; omega
   have hCo : ∀ c,H.length ≤ c → c ≠ qq → c ∉ C := fun c h1 h2 hc => by rw [eC] at hc; rcases List.mem_cons.1 hc with rfl | hc; exact h2 rfl; have := unx hc; omega
   have hC1 : ∀ c ∈ C,c ∈ nw ++ xs ∨ H1.length ≤ c := fun c hc => by rw [eC] at hc; rcases List.mem_cons.1 hc with rfl | hc; exact .inr (by omega); exact .inl hc
   have sG2 : aB (msk (nw ++ xs) H1) (msk C G2) := (aB.toK (C := []) hG2).mskm (by simp) hC1
   have hlx := dg.s1
   refine aCH C d v (.map im) i s sv (wAt d w slot) qq (H1.length + 1) (H1.length + 2) (H1.length + 3) KF (hs.ok (by omega)) dg.seats (by have := dg.p0; omega) hop.1 (by have := hop.2; omega) hCl (by rw [bE (hCo _ (by omega) (by omega)),eG2]; simp) (by rw [bE (hCo _ (by omega) (by omega)),eG2]; simp [stC]) (by rw [bE (hCo _ (by omega) (by omega)),eG2]; simp) (I2.hD.sub sG2) (S1.sub ((k1.msk fun c hc => .inl (by simp at hc; subst hc; exact imx)).trans sG2)) ?_
   have hun := fun z hz => And.intro (kR (op := wAt d w slot) dg hs z hz) (oM (op := wAt d w slot) dg hs (y := z) hz)
   have eF : iM d k slot s pol' g = rK d k g pol' ((cK d s (wAt d w slot)).find? (pF d k slot g s)) := by rw [iM,← ew]
   generalize cK d s (wAt d w slot) = us at hun eF
   have claim : ∀ (l : List (List aC × aD)) (O : List Nat) (Hc : Heap),(∀ y ∈ l,(y.1.length = d.planes.length ∧ (∀ x ∈ y.1,tK d x) ∧ (fC d s (wAt d w slot) y.1).2.1 = 1 ∧ y.2 = (fC d s (wAt d w slot) y.1).1) ∧ StN d (slot + 1) y.2) → (∀ c ∈ O,G2.length ≤ c) → Keep [qq,im] G2 Hc → Hc[qq]? = some (some (rec_ .ready none)) → (∃ M,Hc[im]? = some (some (.map (gW M))) ∧ oI d M) →
    iM d k slot s pol' g = rK d k g pol' (l.find? (pF d k slot g s)) → fS Try.prog w0 qq C (UnYV w0 C) (fun _ => True) KF l O Hc := by
    intro l
    induction l with
    | nil =>
     intro O Hc _ hO kc hq hm hn
     intro H2 t2
     have out : ∀ c,c < G2.length → c ∉ O := fun c hc hx => by have := hO c hx; omega
     have k9 := t2.at_ _ _ (out _ (by omega)) hq
     have kG2 := kc.iter t2 hO
     have kHn : Keep [im] H (H2.set qq none) := ((((aB.refl.app (L := [some (Blk.row [.int .i64 (g : Int)])])).toK.trans k1).trans hG2.toK).more (D := [qq,im]) (by simp) |>.trans kG2 |>.set (.inl (by simp))).old fun c hc => by simp at hc; rcases hc with rfl | rfl; exact .inr (by omega); exact .inl (by simp)
     have hm' : ∃ M,(H2.set qq none)[im]? = some (some (.map (gW M))) ∧ oI d M := by
      obtain ⟨M,e1,e2⟩ := hm
      exact ⟨M,by rw [qB (by omega)]; exact t2.at_ _ _ (out _ (by omega)) e1,e2⟩
     have hle := kHn.le
     simp only [eKF,k9,erec]
     simp only [go_sem]
     simp only [List.find?_nil,rK] at hn
     refine hend .normal _ cells' nw (.inl rfl) (fun c hc => ⟨(n1 c hc).1,by have := (n1 c hc).2; omega⟩) (kH.trans (kHn.more (by simp [him]))) ⟨IH.hD.sub (kHn.msk fun c hc => .inl (by simp at hc; subst hc; exact imx)),imx,fun c hc => by have := unx hc; omega,hm'⟩ ?_
     rw [hn]
     exact PH.keep (ns := nw ++ ps) kHn (fun c hc _ => by simpa using hc) (fun c hc => .inl hc) (fun c hc => hc) (fun c hc => Nat.lt_of_lt_of_le (PH.lt c hc) hle) (fun c hc => .inl (by simp at hc; subst hc; exact PH.sub _ (List.mem_append_right _ him)))
    | cons yy l ihl =>
     intro O Hc hl hO kc hq hm hn
     intro H2 args O2 _ t2 h2o h2l ⟨uv,nv,ea,huv,hst⟩
     subst ea
     have out : ∀ c,c < G2.length → c ∉ O := fun c hc hx => by have := hO c hx; omega
     have k9 := t2.at_ _ _ (out _ (by omega)) hq
     have k9' := k9
     simp only [erec] at k9
     refine tM (psl := [49,50]) aM rfl aHN aHM R77_1a.eq_1 R77_1b.eq_1 k9 rfl hps hca hcb fun hb2 ha2 => ?_
     rw [← List.append_nil H2]
     have v1 := Sl.one hst.planes.s
     have v2 := Sl.one hst.legs.s
     have v3 := Sl.one hst.people.s
     obtain ⟨A,eA⟩ : ∃ A,A = H2 ++ [some (Blk.row [nv.pl,nv.le,nv.pe])] := ⟨_,rfl⟩
     have hHA : aB H2 A := by rw [eA]; exact aB.refl.app
     have a9 : A[qq]? = some (some (rec_ .ready none)) := hHA.2 _ _ k9'
     have a9' := a9
     simp only [erec,efr] at a9'
     rw [efr]
     simp only [go_sem,v1.1,v2.1,v3.1,v1.2,v2.2,v3.2,← eA,a9']
     obtain ⟨B0,eB0⟩ : ∃ B0,B0 = A.set qq (some (rec_ .busy none)) := ⟨_,rfl⟩
     have eB0' := eB0
     simp only [erec,efr] at eB0'
     rw [← eB0',← efr]
     have l9 := aN a9
     have k2B : Keep [qq] H2 B0 := by rw [eB0]; exact hHA.toK.set (.inl (by simp))
     have kG2 := kc.iter t2 hO
     have kGB : Keep [qq,im] G2 B0 := kG2.trans (k2B.more (by simp))
     have hGl := kG2.le
     have hqC : qq ∈ C := by rw [eC]; simp
     have hxC : ∀ c ∈ nw ++ xs,c ∈ C := fun c hc => by rw [eC]; exact List.mem_cons_of_mem _ hc
     have himC : im ∈ C := hxC _ imx
     have sGB : aB (msk C G2) (msk C B0) := kGB.msk fun c hc => .inl (by simp at hc; rcases hc with rfl | rfl; exact hqC; exact himC)
     have UB := (U1.sub sG2).sub sGB
     have unB := bS (ms := C) (A := B0)
     have kn : ∀ c,h.length ≤ c → c < H1.length + 4 → c ∉ [qq,im] := fun c h1 h2 hc => by simp at hc; omega
     have j7 : B0[h.length]? = some (some (.row [.int .i64 (slot : Int)])) := kGB.at_ _ _ (kn _ (by omega) (by omega)) (hG2.2 _ _ (by simpa using d7 []))
     have j11 : B0[H.length]? = some (some (.row [.int .i64 (g : Int)])) := kGB.at_ _ _ (kn _ (by omega) (by omega)) (hG2.2 _ _ (by simpa using d11 []))
     have j12 : B0[H1.length]? = some (some (.row [.int .i64 want])) := kGB.at_ _ _ (kn _ (by omega) (by omega)) m0
     have j14 : B0[H2.length]? = some (some (.row (stC nv))) := by
      rw [eB0,qB (by omega),eA]; simp [stC]
     have IB : jZ w0 d v i im C B0 := by
      refine ⟨((I2.hD.sub sG2).sub sGB),himC,fun c hc => by have := hCl c hc; have := kGB.le; omega,?_⟩
      obtain ⟨M,z1,z2⟩ := hm
      exact ⟨M,k2B.at_ _ _ (by simp; omega) (t2.at_ _ _ (out _ (by omega)) z1),z2⟩
     have hstB : StS w0 (msk C B0) yy.2 nv := hst.sub (k2B.msk fun c hc => .inl (by simp at hc; subst hc; exact hqC))
     obtain ⟨⟨u1,u2,u3,u4⟩,u5⟩ := hl yy (by simp)
     refine aFj (KS := [3,4,5,6,7,9,11,13,14,26,27,28]) (xb := b.xb) (tb := h.length) (gb := H.length) (nb := H2.length) (wb := H1.length) (want := want) (slot := slot) (g := g) (s := yy.2) (nv := nv) (n := k) (xs := C) (by simp only [efr]; rfl) (by simp only [efr]; rfl) (by simp only [efr]; rfl) (by simp only [efr]; rfl) (by simp only [efr]; rfl) (unB.2 _ _ UB.hx) j7 j11 j12 j14 (vF d v i im dg k).1 (by omega) (by omega) hg50 u5 IB hstB (by simp) (fun H3 k3 I3 => ?_)
     obtain ⟨c,ec⟩ : ∃ c,c = bF d k g yy.2 := ⟨_,rfl⟩
     rw [← ec]
     have b9' : B0[qq]? = some (some (rec_ .busy none)) := by rw [eB0,qF l9]
     have x9 : H3[qq]? = some (some (rec_ .busy none)) := k3.at_ _ _ (by simp; omega) b9'
     have l3 := aN x9
     have x9' := x9
     simp only [erec,efr] at x9'
     have k23 : Keep C H2 H3 := (k2B.more (by simp [hqC])).trans (k3.more (by simp [himC]))
     have hO2 : ∀ c ∈ O2,G2.length ≤ c := fun c hc => (h2o c hc).elim (hO c) fun hx => by have := kc.le; omega
     simp only [efr]
     by_cases hit : want < c
     · simp only [go_sem,hit,x9',List.append_nil]
       obtain ⟨F,eF⟩ : ∃ F,F = H3.set qq (some (rec_ .ready none)) := ⟨_,rfl⟩
       have eF' := eF
       simp only [erec,efr] at eF'
       rw [← eF']
       have kF : Keep [qq] H3 F := by rw [eF]; exact Keep.refl.set (.inl (by simp))
       refine ⟨k23.trans (kF.more (by simp [hqC])),.inl (ihl O2 F (fun z hz => hl z (List.mem_cons_of_mem _ hz)) hO2 (kGB.trans ((k3.more (by simp)).trans (kF.more (by simp)))) (by rw [eF,qF l3]) ?_ ?_)⟩
       · obtain ⟨M,z1,z2⟩ := I3.memo
         exact ⟨M,kF.at_ _ _ (by simp; omega) z1,z2⟩
       · rw [hn,List.find?_cons_of_neg]
         simp only [pF,← ec,← ewant,hit,decide_true,Bool.not_true,Bool.false_eq_true,not_false_eq_true]
     · have hn' : iM d k slot s pol' g = iB d k g yy.2 (lH g yy.1 pol' d.weathers.length) := by
        rw [hn,List.find?_cons_of_pos]
        · rfl
        · simp only [pF,← ec,← ewant,hit,decide_false,Bool.not_false]
       have kH3 : Keep [im] H H3 := ((((aB.refl.app (L := [some (Blk.row [.int .i64 (g : Int)])])).toK.trans k1).trans hG2.toK).more (D := [qq,im]) (by simp) |>.trans kGB |>.trans (k3.more (by simp))).old fun c hc => by simp at hc; rcases hc with rfl | rfl; exact .inr (by omega); exact .inl (by simp)
       have hle3 := kH3.le
       have hA2 := hHA.1
       have hB2 := k2B.le
       have h23 := k23.le
       obtain ⟨P3,eP3⟩ : ∃ P3,P3 = qq :: (O2 ++ (nw ++ ps)) := ⟨_,rfl⟩
       have hP3 : ∀ c ∈ P3,c = qq ∨ c ∈ O2 ∨ c ∈ nw ++ ps := fun c hc => by rw [eP3] at hc; rcases List.mem_cons.1 hc with rfl | hc; exact .inl rfl; exact .inr (List.mem_append.1 hc)
       have PH3 : lI w0 P3 (nw ++ ms) im H3 iout d.weathers.length pol' cells' :=
        PH.keep (ns := P3) kH3 (fun c hc _ => by simpa using hc) (fun c hc => by
         rcases hP3 c hc with rfl | h1 | h1
         · exact .inr (by omega)
         · exact .inr (by have := hO2 c h1; omega)
         · exact .inl h1) (fun c hc => by rw [eP3]; exact List.mem_cons_of_mem _ (List.mem_append_right _ hc)) (fun c hc => by
         rcases hP3 c hc with rfl | h1 | h1
         · exact l3
         · have := h2l c h1; omega
         · have := PH.lt c h1; omega) (fun c hc => .inl (by simp at hc; subst hc; exact PH.sub _ (List.mem_append_right _ him)))
       have U3 := UB.sub (k3.msk (ms := C) fun c hc => .inl (by simp at hc; subst hc; exact himC))
       have unC3 := bS (ms := C) (A := H3)
       have y3 : H3[b.b3]? = some (some (.row (aX v))) := unC3.2 _ _ U3.h3
       have lnw : fN v.we = some (.int .i64 d.weathers.length) := by obtain ⟨rows,z1,z2,_⟩ := hD1.R.weathers; rw [← z1]; exact z2.use.1
       have nCm : ∀ c ∈ nw ++ ms,c ∈ C := fun c hc => by
        rcases List.mem_append.1 hc with hc | hc
        · exact hxC c (List.mem_append_left _ hc)
        · exact hxC c (List.mem_append_right _ (hmx c hc))
       have hmsk : ∀ {c : Nat} {bb : Blk} {X : Heap},(msk C X)[c]? = some (some bb) → c ∉ C := fun {c bb X} e hc => by
        by_cases hcl : c < X.length
        · rw [vS hc hcl] at e; cases e
        · rw [List.getElem?_eq_none (by rw [fM]; omega)] at e; cases e
       have z7 : H3[h.length]? = some (some (.row [.int .i64 (slot : Int)])) := k3.at_ _ _ (by simp; omega) j7
       have z11 : H3[H.length]? = some (some (.row [.int .i64 (g : Int)])) := k3.at_ _ _ (by simp; omega) j11
       have z14 : H3[H2.length]? = some (some (.row (stC nv))) := k3.at_ _ _ (by simp; omega) j14
       have gn : ∀ c,c ∉ C → c < H3.length → ∀ nw2 : List Nat,(∀ c ∈ nw2,H3.length ≤ c) → c ∉ nw2 ++ (nw ++ ms) := fun c hc hc3 nw2 h2 hx => by
        rcases List.mem_append.1 hx with hx | hx
        · have := h2 c hx; omega
        · exact hc (nCm c hx)
       have gO : H.length ∉ C := hCo _ (Nat.le_refl _) (by omega)
       have g7' : h.length ∉ C := fun hc => by
        rw [eC] at hc
        rcases List.mem_cons.1 hc with hc | hc
        · omega
        · rcases List.mem_append.1 hc with hc | hc
          · have := (n1 _ hc).1; omega
          · have := I.n2 _ hc; omega
       have g14 : H2.length ∉ C := hCo _ (by omega) (by omega)
       simp only [go_sem,hit,y3,lnw]
       have sl5 : g < 2 ^ 62 := by omega
       refine cU (S := Heap × List AV × List Nat) (fun n _ => [(3,AV.ptr (Pl.own b.b3 0)),(4,AV.ptr (Pl.own b.xb 0)),(5,AV.ptr (Pl.own b.ob 0)),(6,AV.ptr (Pl.own b.bb 0)),(7,AV.ptr (Pl.own h.length 0)),(9,AV.ptr (Pl.own (h.length + 1) 0)),(11,AV.ptr (Pl.own H.length 0)),(13,uv),(14,AV.ptr (Pl.own H2.length 0)),(26,y),(27,AV.int .i64 (gs.length : Int)),(28,AV.int .i64 (j : Int)),(61,.int .i64 (d.weathers.length : Int)),(62,.int .i64 (n : Int))]) (fun _ st => st.1)
        (fun n st => (∀ c ∈ st.2.2,H3.length ≤ c ∧ c < st.1.length) ∧ Keep (nw ++ ms) H3 st.1 ∧ st.1[im]? = H3[im]? ∧ lI w0 (st.2.2 ++ P3) (st.2.2 ++ (nw ++ ms)) im st.1 iout d.weathers.length (lH g yy.1 pol' n) st.2.1) d.weathers.length (H3,cells',[]) ⟨by simp,Keep.refl,rfl,by simpa [lH] using PH3⟩ rfl rfl (fun n st hn2 N ih2 => ?_) (fun st N => ?_)
       · obtain ⟨Hn,celn,nw2⟩ := st
         obtain ⟨N1,N2,N3,N4⟩ := N
         simp only at N1 N2 N3 N4 ih2 ⊢
         refine aE aM aDG [3,4,5,6,7,9,11,13,14,26,27,28,61,62] L77_0.eq_1 ?_
         have e2 : (n : Int) < d.weathers.length := by omega
         have s1 := hT (a := g) (n := n) (by omega)
         have s2 := gZ (a := g / 2 ^ n) (Nat.lt_of_le_of_lt (Nat.div_le_self _ _) sl5)
         have t11 : Hn[H.length]? = some (some (.row [.int .i64 (g : Int)])) := N2.at_ _ _ (fun hx => gO (nCm _ hx)) z11
         cases hb2' : aV g n with
         | false =>
          simp only [go_sem,e2,t11,s1,s2,oE,hb2']
          have := ih2 (Hn,celn,nw2) ⟨N1,N2,N3,by rw [lH,hb2']; exact N4⟩
          exact ⟨(by unfold I64; omega),by simpa using this⟩
         | true =>
          simp only [go_sem,e2,t11,s1,s2,oE,hb2']
          have hnl : n < (lH g yy.1 pol' n).length := by rw [N4.len]; exact hn2
          have hobC : b.ob ∉ C := hmsk U3.ho
          have hobl : b.ob < H3.length := aN (unC3.2 _ _ U3.ho)
          have kCn : Keep C H2 Hn := k23.trans (N2.more nCm)
          have hgim : ∃ bb,Hn[im]? = some (some bb) := by obtain ⟨M,z1,_⟩ := I3.memo; exact ⟨_,by rw [N3]; exact z1⟩
          refine aHu (ps := nw2 ++ P3) (ms := nw2 ++ (nw ++ ms)) (im := im) (iout := iout) (W := d.weathers.length) (w := n) (ob := b.ob) (pol := lH g yy.1 pol' n) (cells := celn) (l := (lH g yy.1 pol' n)[n]) (uv := uv) (u := yy.1) (by rfl) (by rfl) (by rfl) (N2.at_ _ _ (fun hx => hobC (nCm _ hx)) (unC3.2 _ _ U3.ho)) (gn _ hobC hobl nw2 fun c hc => (N1 c hc).1) N4 (qA hnl) ?_ hgim ((huv.sub (kCn.msk (ms := C) fun c hc => .inl hc)).sub bS) (by have := dg.pn; omega) (fun x hx => by have := (u2 x hx).pl; have := dg.pe; omega)
           [3,4,5,6,7,9,11,13,14,26,27,28,61,62] (by simp) (fun Hm id' celm a1 a2 a3 a4 => ?_)
          · have := (nE lb n n _ (qA hnl)).1
            have h6 : (j + 1) * (1 + mW k) ≤ 6 * (1 + mW k) := Nat.mul_le_mul_right _ (by omega)
            rw [Nat.succ_mul] at h6
            omega
          · simp only [go_sem]
            have hln := N2.le
            have hlm := a1.le
            have kAll : Keep (nw ++ ms) H3 Hm := ((N2.more (D := nw2 ++ (nw ++ ms)) (fun c hc => List.mem_append_right _ hc)).trans a1).old fun c hc => by
             rcases List.mem_append.1 hc with hc | hc
             · exact .inr (N1 c hc).1
             · exact .inl hc
            have := ih2 (Hm,celm,id' :: nw2) ⟨fun c hc => by
             rcases List.mem_cons.1 hc with rfl | hc
             · have := a4.lt c (by simp)
               simp only; omega
             · have := N1 c hc; simp only; omega,kAll,a2.trans N3,by rw [lH,hb2',if_pos rfl,aI hnl]; simpa using a4⟩
            exact ⟨(by unfold I64; omega),by simpa using this⟩
       · obtain ⟨Hn,celn,nw2⟩ := st
         obtain ⟨N1,N2,N3,N4⟩ := N
         simp only at N1 N2 N3 N4 ⊢
         refine aE aM aDG [3,4,5,6,7,9,11,13,14,26,27,28,61,62] L77_0.eq_1 ?_
         have e2 : ¬ (d.weathers.length : Int) < d.weathers.length := by omega
         have t7 : Hn[h.length]? = some (some (.row [.int .i64 (slot : Int)])) := N2.at_ _ _ (fun hx => g7' (nCm _ hx)) z7
         have t11 : Hn[H.length]? = some (some (.row [.int .i64 (g : Int)])) := N2.at_ _ _ (fun hx => gO (nCm _ hx)) z11
         have t14 : Hn[H2.length]? = some (some (.row (stC nv))) := N2.at_ _ _ (fun hx => g14 (nCm _ hx)) z14
         have hbbC : b.bb ∉ C := hmsk U3.hb
         have t6 : Hn[b.bb]? = some (some (.row [.fn (.func 77) [] b.args])) := N2.at_ _ _ (fun hx => hbbC (nCm _ hx)) (unC3.2 _ _ U3.hb)
         simp only [go_sem,e2,t6,t7,t11,t14,v1.1,v2.1,v3.1,v1.2,v2.2,v3.2]
         have hln := N2.le
         have kCn : Keep C H2 Hn := k23.trans (N2.more nCm)
         have hxr : ∀ c ∈ nw2 ++ C,c ∈ C ∨ H3.length ≤ c := fun c hc => by
          rcases List.mem_append.1 hc with hc | hc
          · exact .inr (N1 c hc).1
          · exact .inl hc
         have s3n : aB (msk C H3) (msk (nw2 ++ C) Hn) := N2.mskm (fun c hc => .inl (nCm c hc)) hxr
         have IR : jZ w0 d v i im (nw2 ++ C) Hn := ⟨I3.hD.sub s3n,List.mem_append_right _ himC,fun c hc => by
          rcases List.mem_append.1 hc with hc | hc
          · exact (N1 c hc).2
          · have := I3.n2 c hc; omega,by rw [N3]; exact I3.memo⟩
         have SR : StS w0 (msk (nw2 ++ C) Hn) yy.2 nv := (hstB.sub (k3.msk (ms := C) fun c hc => .inl (by simp at hc; subst hc; exact himC))).sub s3n
         have h6 : (j + 1) * (1 + mW k) ≤ 6 * (1 + mW k) := Nat.mul_le_mul_right _ (by omega)
         rw [Nat.succ_mul] at h6
         have hR := R (slot + 1) g yy.2 nv (nw2 ++ C) (nw2 ++ P3) (nw2 ++ (nw ++ ms)) Hn (lH g yy.1 pol' d.weathers.length) celn (by omega) hg50 u5 IR SR (U3.sub s3n) N4 (fun c hc => by
          rcases List.mem_append.1 hc with hc | hc
          · exact List.mem_append_left _ hc
          · exact List.mem_append_right _ (nCm c hc)) (List.mem_append_right _ (List.mem_append_right _ him)) (LL + j * (1 + mW k) + 1) (fun l hl' => by
          obtain ⟨ww,hww,rfl⟩ := List.mem_iff_getElem.1 hl'
          exact (nE lb _ ww _ (qA hww)).1) (by omega)
         rw [Int.natCast_add,Int.natCast_one] at hR
         refine ⟨(by unfold I64; omega),?_⟩
         refine aR (ACall.vc (first := []) (args := [_,_,_]) (capt := b.args) hR) ?_
         rintro yr H5 ⟨nw3,cel5,M1,M2,M3,M4⟩
         have hl5 := M2.le
         have hqm : qq ∉ nw2 ++ (nw ++ ms) := fun hx => by
          rcases List.mem_append.1 hx with hx | hx
          · have := (N1 _ hx).1; omega
          · rcases List.mem_append.1 hx with hx | hx
            · have := (n1 _ hx).2; omega
            · have := hmh _ hx; omega
         have w9 : H5[qq]? = some (some (rec_ .busy none)) := M2.at_ _ _ hqm (N2.at_ _ _ (fun hx => hqm (List.mem_append_right _ hx)) x9)
         have l5 := aN w9
         simp only [erec,efr] at w9
         simp only [go_sem,w9,List.append_nil]
         obtain ⟨F,eF⟩ : ∃ F,F = H5.set qq (some (rec_ .done (some (.exit 2)))) := ⟨_,rfl⟩
         have eF' := eF
         simp only [erec,efr] at eF'
         rw [← eF']
         have kF : Keep [qq] H5 F := by rw [eF]; exact Keep.refl.set (.inl (by simp))
         have kn5 : Keep (nw ++ ms) H3 H5 := ((N2.more (D := nw2 ++ (nw ++ ms)) fun c hc => List.mem_append_right _ hc).trans M2).old fun c hc => by
          rcases List.mem_append.1 hc with hc | hc
          · exact .inr (N1 c hc).1
          · exact .inl hc
         have kCF : Keep C H2 F := (k23.trans (kn5.more nCm)).trans (kF.more (by simp [hqC]))
         refine ⟨kCF,.inr fun H4 k4 => ?_⟩
         have f9 : F[qq]? = some (some (rec_ .done (some (.exit 2)))) := by rw [eF,qF l5]
         have hqO : qq ∉ O2 := fun hx => by have := hO2 _ hx; omega
         have f9' := k4.at_ _ _ hqO f9
         simp only [eKF,f9',erec]
         simp only [go_sem]
         have k5X : Keep (qq :: O2) H5 (H4.set qq none) := (((kF.more (by simp)).trans (k4.more fun c hc => List.mem_cons_of_mem _ hc)).set (.inl (by simp)))
         have hlX := k5X.le
         have kHX : Keep (nw ++ ms) H (H4.set qq none) := ((((kH3.more (D := qq :: (O2 ++ (nw ++ ms))) (by simp [him])).trans (kn5.more fun c hc => List.mem_cons_of_mem _ (List.mem_append_right _ hc))).trans (k5X.more fun c hc => by
          rcases List.mem_cons.1 hc with rfl | hc
          · simp
          · exact List.mem_cons_of_mem _ (List.mem_append_left _ hc)))).old fun c hc => by
            rcases List.mem_cons.1 hc with rfl | hc
            · exact .inr (by omega)
            · rcases List.mem_append.1 hc with hc | hc
              · exact .inr (by have := hO2 c hc; omega)
              · exact .inl hc
         have hlen := kHX.le
         refine hend (.exit 2) (H4.set qq none) cel5 (nw3 ++ (nw2 ++ nw)) (.inr rfl) (fun c hc => ?_) ?_ ⟨?_,?_,fun c hc => ?_,?_⟩ ?_
         · rcases List.mem_append.1 hc with hc | hc
           · have := M1 c hc; omega
           · rcases List.mem_append.1 hc with hc | hc
             · have := N1 c hc; omega
             · have := n1 c hc; omega
         · refine ((kH.more (D := nw ++ ms) fun c hc => List.mem_append_right _ hc).trans kHX).old fun c hc => ?_
           rcases List.mem_append.1 hc with hc | hc
           · exact .inr (n1 c hc).1
           · exact .inl hc
         · refine IH.hD.sub (kHX.mskm (fun c hc => .inl ?_) fun c hc => ?_)
           · rcases List.mem_append.1 hc with hc | hc
             · exact List.mem_append_left _ hc
             · exact List.mem_append_right _ (hmx c hc)
           · rcases List.mem_append.1 hc with hc | hc
             · rcases List.mem_append.1 hc with hc | hc
               · have := M1 c hc; exact .inr (by omega)
               · rcases List.mem_append.1 hc with hc | hc
                 · have := N1 c hc; exact .inr (by omega)
                 · exact .inl (List.mem_append_left _ hc)
             · exact .inl (List.mem_append_right _ hc)
         · exact List.mem_append_right _ I.n0
         · rcases List.mem_append.1 hc with hc | hc
           · rcases List.mem_append.1 hc with hc | hc
             · have := M1 c hc; omega
             · rcases List.mem_append.1 hc with hc | hc
               · have := N1 c hc; omega
               · have := n1 c hc; omega
           · have := I.n2 c hc; omega
         · obtain ⟨M,z1,z2⟩ := M3.memo
           exact ⟨M,k5X.at_ _ _ (fun hx => by
            rcases List.mem_cons.1 hx with hx | hx
            · omega
            · have := hO2 _ hx; omega) z1,z2⟩
         · rw [hn']
           have PX := M4.keep (ns := nw3 ++ (nw2 ++ P3)) k5X (fun c hc hm' => by
            exfalso
            rcases List.mem_append.1 hm' with hm' | hm'
            · have h1 := M1 c hm'
              rcases List.mem_cons.1 hc with rfl | hc
              · omega
              · have := h2l c hc; omega
            · rcases List.mem_cons.1 hc with rfl | hc
              · exact hqm hm'
              · have h2 := hO2 c hc
                have h3 := h2l c hc
                rcases List.mem_append.1 hm' with hx | hx
                · have := (N1 _ hx).1; omega
                · rcases List.mem_append.1 hx with hx | hx
                  · have := (n1 _ hx).2; omega
                  · have := hmh _ hx; omega) (fun c hc => .inl hc) (fun c hc => hc) (fun c hc => Nat.lt_of_lt_of_le (M4.lt c hc) hlX) (fun c hc => .inl (List.mem_append_right _ (List.mem_append_right _ (by
              rw [eP3]
              rcases List.mem_cons.1 hc with rfl | hc
              · simp
              · exact List.mem_cons_of_mem _ (List.mem_append_left _ hc)))))
           have PY := PX.less (ns := (nw3 ++ (nw2 ++ nw)) ++ ps) (fun c hc => by
            rw [eP3]
            simp only [List.mem_append,List.mem_cons] at hc ⊢
            rcases hc with (h1 | h1 | h1) | h1 <;> simp [h1]) (fun c hc => by
            have := PH.sub
            simp only [List.mem_append] at hc this ⊢
            rcases hc with h1 | h1 | h1 | h1
            · simp [h1]
            · simp [h1]
            · simp [h1]
            · rcases this c (.inr h1) with h2 | h2 <;> simp [h2])
           simpa using PY
   exact claim us [] G2 (fun z hz => hun z hz) (by simp) Keep.refl m4 (by obtain ⟨M,e1,e2⟩ := I2.memo; exact ⟨M,hG2.2 _ _ e1,e2⟩) eF
 · obtain ⟨H,pol',cells',nw⟩ := st
   obtain ⟨n1,kH,IH,PH,ep,lb⟩ := J
   simp only at n1 kH IH PH ep lb ⊢
   refine aE aM aDF [3,4,5,6,7,9,26,27,28] L77_2.eq_1 ?_
   have e1 : ¬ (gs.length : Int) < gs.length := by omega
   simp only [go_sem,e1]
   rw [List.take_length] at ep
   rw [efin,← ep]
   exact ⟨nw,cells',fun c hc => ⟨by have := (n1 c hc).1; omega,(n1 c hc).2⟩,(aB.toK hhG).trans kH,IH,PH⟩
theorem aCw {Q : Exit → Fr → Heap → Prop} {k : List It} {nt Z : Nat} {G : Heap} {fr0 : Fr} {d : aO} {v : bO} {m : AV} {i b3 xb : Nat}
 (f1 : fr0.get 1 = .ptr (.own b3 0)) (f5 : fr0.get 5 = .ptr (.own xb 0)) (g3 : G[b3]? = some (some (.row (aX v)))) (gx : G[xb]? = some (some (.row [.ptr (.own i 0)]))) (hD : pG w0 G d v m i) (dg : dC d)
 (KS : List Nat) (hKS : ∀ t ∈ KS,t ∉ [8,9,22,23,24,25,26,27,28])
 (hQ : ∀ H id nv,aB G H → G.length ≤ id → H[id]? = some (some (.row (stC nv))) → (∀ C : List Nat,(∀ c ∈ C,c < G.length) → StS w0 (msk C H) (bL d) nv) → un Try.prog w0 none nt Z Q .normal k ((8,.ptr (.own id 0)) :: (9,.int .i64 ((2 ^ d.weathers.length - 1 : Nat) : Int)) :: iI fr0 KS) H) :
 dr Try.prog w0 none nt Z Q D30_0 B30_0 k fr0 G := by
 obtain ⟨W,eW⟩ : ∃ W,W = d.weathers.length := ⟨_,rfl⟩
 have lnw : fN v.we = some (.int .i64 (W : Int)) := by obtain ⟨rows,z1,z2,_⟩ := hD.R.weathers; rw [eW,← z1]; exact z2.use.1
 have hW := dg.w1
 rw [← eW] at hW hQ
 have s1 := oF (n := W) (by omega)
 have h2 : 2 ^ W ≤ 2 ^ 6 := Nat.pow_le_pow_right (by omega) hW
 have h1 : 1 ≤ 2 ^ W := Nat.one_le_two_pow
 have he : ((2 ^ W : Nat) : Int) - 1 = ((2 ^ W - 1 : Nat) : Int) := by omega
 refine rY ?_
 refine jT aM [0,2,3,4,5,6,1,7,8,9] [o_ 22 (l_ 5),o_ 24 (.addr (.t 1) 4),o_ 25 (l_ 24),o_ 26 (.len (.t 25)),o_ 27 (.bin .shl (i_ 1) (.t 26)),o_ 28 (.bin .sub (.t 27) (i_ 1)),.call (some 23) none (f_ 84) [(.t 22)]] [([(2,o_ 25 (l_ 24))],[o_ 8 (.alloc [.nilS,.nilS,.nilS]),.op none none (.store (.t 8) (.t 23) 3)]),([(2,o_ 25 (l_ 24))],[o_ 9 (m_ 28)])] rfl rfl (by kernel_rfl) ?_
 simp only [go_sem,f1,f5,g3,gx,aX,lnw,s1,he]
 refine ⟨by unfold I64; omega,?_⟩
 refine aR (ACall.vc (first := []) (args := [_]) (aDi d v m i hD dg)) ?_
 rintro y H ⟨s2,nv,rfl,hst⟩
 have g3' := s2.2 _ _ g3
 have gx' := s2.2 _ _ gx
 have s0 := hst [] (by simp)
 have p1 := Sl.one s0.planes.s
 have p2 := Sl.one s0.legs.s
 have p3 := Sl.one s0.people.s
 have g3L := xL g3'
 simp only [go_sem,f1,f5,g3',g3L,gx',aX,lnw,s1,he,stC,p1.1,p2.1,p3.1,p1.2,p2.2,p3.2]
 refine ⟨_,Wk.cons (Wk.cons (fun t => ?_) rfl) rfl,hQ _ H.length nv s2.app s2.1 (by simp [stC]) fun C hC => (hst C hC).sub oT⟩
 rcases uZ KS fr0 t with e | ⟨e1,e2⟩
 · exact .inl e
 · refine .inr (e2.trans (aBK (L := [_,_,_,_,_,_,_,_,_]) fun p hp e => ?_).symm)
   have h4 := hKS t e1
   simp only [List.mem_cons,List.not_mem_nil,or_false] at hp h4
   rcases hp with rfl | rfl | rfl | rfl | rfl | rfl | rfl | rfl | rfl <;> simp only at e <;> omega
theorem srch_k (d : aO) (v : bO) (i im iout k : Nat) (b : BuB) (dg : dC d) : aAi w0 d v i im iout b k := by
 induction k with
 | zero => exact aHp d v i im iout b dg
 | succ k ih => exact aHo d v i im iout k b dg ih
theorem aHc {Q : Exit → Fr → Heap → Prop} {k : List It} {nt Z : Nat} {G : Heap} {fr0 : Fr} {d : aO} {v : bO} {i im e ob xb sb : Nat} {xs : List Nat} {sv : StV} {ov : AV}
 (f6 : fr0.get 6 = .ptr (.own ob 0)) (f5 : fr0.get 5 = .ptr (.own xb 0)) (f9 : fr0.get 9 = .int .i64 (e : Int)) (f8 : fr0.get 8 = .ptr (.own sb 0)) (go : G[ob]? = some (some (.row [ov]))) (oo : one ov = true ∧ cellsOf ov = some [ov]) (gx : G[xb]? = some (some (.row [.ptr (.own i 0)]))) (gs : G[sb]? = some (some (.row (stC sv))))
 (dg : dC d) (he : e < 2 ^ 50) (I : jZ w0 d v i im xs G) (hs : StN d 0 (bL d)) (hst : StS w0 (msk xs G) (bL d) sv)
 (hQ : ∀ H,Keep [im] G H → jZ w0 d v i im xs H → un Try.prog w0 none nt Z Q .normal k [(2,ov),(3,.int .i64 (bF d (aJ d) e (bL d))),(4,.int .i64 0)] H) :
 dr Try.prog w0 none nt Z Q aH9 aIb k fr0 G := by
 obtain ⟨c,ec⟩ : ∃ c,c = bF d (aJ d) e (bL d) := ⟨_,rfl⟩
 rw [← ec] at hQ
 obtain ⟨M,hM,_⟩ := I.memo
 have nim : ∀ {b : Nat} {c : List AV},G[b]? = some (some (.row c)) → b ∉ [im] := fun {b c} e hb => by
  simp at hb; subst hb; rw [hM] at e; cases e
 have hc := (vF d v i im dg (aJ d)).1 0 e (bL d) sv xs G (by omega) he hs I hst
 rw [← ec] at hc
 refine rY ?_
 refine jT aM [0,1,2,3,4,5,6,7] [o_ 33 (l_ 6),o_ 34 (l_ 5),o_ 35 (m_ 9),o_ 36 (.load (.t 8) (some 3)),.call (some 37) none (f_ 82) [(.t 34),(i_ 0),(.t 35),(.t 36)]] [([(0,o_ 33 (l_ 6))],[o_ 2 (m_ 33),o_ 3 (m_ 37),o_ 4 (.mov (i_ 0))])] rfl rfl (by kernel_rfl) ?_
 simp only [go_sem,f5,f6,f8,f9,go,gx,gs,stC]
 refine aR (ACall.vc (first := []) (args := [_,_,_,_]) hc) ?_
 rintro y H2 ⟨y1,y2,y3⟩
 subst y1
 have go' := y2.at_ _ _ (nim go) go
 have gx' := y2.at_ _ _ (nim gx) gx
 have gs' := y2.at_ _ _ (nim gs) gs
 simp only [go_sem,f5,f6,f8,f9,go',gx',gs',stC]
 refine ⟨_,?_,hQ H2 y2 y3⟩
 exact Wk.cons (Wk.cons (Wk.cons (fun t => .inl rfl) rfl) rfl) rfl
def nJ (w0 : World) (H : Heap) (u : List aC) (c : List AV) : Prop := ∃ y,c = [y] ∧ UnV w0 H y u
def aE5 (w0 : World) (H : Heap) (l : List (List aC)) (c : List AV) : Prop := ∃ x,c = [x] ∧ NS w0 H 1 (nJ w0 H) x l
def wW (w0 : World) (H : Heap) (v : AV) (pol : fO) : Prop := NS w0 H 1 (aE5 w0 H) v pol
theorem flat1 (l : List AV) : (l.map fun c => [c]).flatten = l := by induction l with | nil => rfl | cons a l ih => simp [ih]
theorem wV {H : Heap} {io n : Nat} {l : List AV} {f : Bool} (e : H[io]? = some (some (.row l))) (hn : n = l.length) : Sl w0 H 1 (.sl (.own io 0) n 1 f) (l.map fun c => [c]) := by
 have := eP (w0 := w0) (H := H) (full := f) (io := io) (rows := l.map fun c => [c]) (es := 1) (by rw [flat1]; exact e) (fun c hc => by obtain ⟨x,_,rfl⟩ := List.mem_map.1 hc; rfl)
 rw [List.length_map] at this
 rw [hn]; exact this
theorem lI.r {ps ms : List Nat} {im : Nat} {H : Heap} {iout W : Nat} {pol : fO} {cells : List AV} (a : lI w0 ps ms im H iout W pol cells) {f : Bool} : wW w0 H (.sl (.own iout 0) W 1 f) pol := by
 obtain ⟨id,i1,_⟩ := a.ids
 refine ⟨cells.map fun c => [c],by rw [List.length_map,a.cl,a.len],wV a.row a.cl.symm,fun w l c hl hc => ?_⟩
 obtain ⟨gv,g1,g2⟩ := i1 w l hl
 rw [List.getElem?_map,g1] at hc
 cases hc
 refine ⟨gv,rfl,?_⟩
 rcases g2 with ⟨rfl,rfl⟩ | ⟨h1,rfl,h3,h4,h5,us,h6,h7,h8⟩
 · exact NS.nil
 · refine ⟨us.map fun c => [c],by rw [List.length_map,h7],wV h6 h7.symm,fun j u c hu hc => ?_⟩
   obtain ⟨y,e1,e2,e3⟩ := h8 j u hu
   rw [List.getElem?_map,e1] at hc
   cases hc
   exact ⟨y,rfl,e3.v.sub bS⟩
def BestK (w0 : World) (h : Heap) (d : aO) (y : AV) (H : Heap) : Prop := aB h H ∧ (eE d = true → ∃ pv,y = .tup [pv,.int .i64 (fK d).2,.int .i64 0] ∧ wW w0 H pv (fK d).1) ∧ (eE d = false → y = .tup [.nilS,.int .i64 0,.int .i64 2])
theorem aFI (n : Nat) : fL [AV.nilS] n = List.replicate n .nilS := by
 induction n with
 | zero => rfl
 | succ n ih => rw [aB0,ih]; rfl
theorem aAa (d : aO) (v : bO) (hR : gJ w0 h d v) : ACall Try.prog w0 30 [.agg (aX v)] h (BestK w0 h d) := by
 refine aY aM aJo mf30_b mf30_g (qE rfl) fun hb ha => aU ?_
 have o1 := hR.places.one
 have o2 := hR.links.one
 have o3 := hR.planes.one
 have o4 := hR.people.one
 have o5 : one v.we = true ∧ cellsOf v.we = some [v.we] := by obtain ⟨rows,_,h2,_⟩ := hR.weathers; exact h2.one
 have lnw : fN v.we = some (.int .i64 (d.weathers.length : Int)) := by obtain ⟨rows,z1,z2,_⟩ := hR.weathers; rw [← z1]; exact z2.use.1
 simp only [go_sem,mf30,o1.1,o2.1,o3.1,o4.1,o5.1,o1.2,o2.2,o3.2,o4.2,o5.2]
 refine aF (tG (h := h ++ _) d v hR.app).v ?_
 cases hB : eE d with
 | false =>
  simp only [go_sem]
  exact ⟨aB.refl.app,fun e => (by rw [hB] at e; cases e),fun _ => rfl⟩
 | true =>
  have dg := gT hB
  have hW := dg.w1
  simp only [go_sem,o1.1,o2.1,o3.1,o4.1,o5.1,o1.2,o2.2,o3.2,o4.2,o5.2,lnw]
  refine ⟨by omega,?_⟩
  rw [beq_self_eq_true,aFI]
  obtain ⟨W,eW⟩ : ∃ W,W = d.weathers.length := ⟨_,rfl⟩
  rw [← eW] at hW ⊢
  obtain ⟨bb,ebb⟩ : ∃ bb : BuB,bb = ⟨h.length,h.length + 3,h.length + 5,h.length + 6⟩ := ⟨_,rfl⟩
  have eargs : [AV.ptr (Pl.own h.length 0),AV.ptr (Pl.own (h.length + 3) 0),AV.ptr (Pl.own (h.length + 5) 0),AV.ptr (Pl.own (h.length + 6) 0)] = bb.args := by rw [ebb]; rfl
  rw [eargs]
  obtain ⟨G,eG⟩ : ∃ G,G = h ++ [some (Blk.row [v.pl,v.ln,v.pn,v.pe,v.we]),some (Blk.map []),some (Blk.row [v.pl,v.ln,v.pn,v.pe,v.we,AV.map (h.length + 1)]),some (Blk.row [AV.ptr (Pl.own (h.length + 2) 0)]),some (Blk.row (List.replicate W .nilS)),some (Blk.row [AV.sl (Pl.own (h.length + 4) 0) W 1 true]),some (Blk.row [AV.fn (Fn.func 77) [] bb.args])] := ⟨_,rfl⟩
  rw [← eG]
  have hhG : aB h G := by rw [eG]; exact aB.refl.app
  have gl : G.length = h.length + 7 := by rw [eG]; simp
  have g0 : G[h.length]? = some (some (.row (aX v))) := by rw [eG]; simp [aX]
  have g1 : G[h.length + 1]? = some (some (.map (gW []))) := by rw [eG]; simp [gW]
  have g2 : G[h.length + 2]? = some (some (.row (aX v ++ [.map (h.length + 1)]))) := by rw [eG]; simp [aX]
  have g3 : G[h.length + 3]? = some (some (.row [.ptr (.own (h.length + 2) 0)])) := by rw [eG]; simp
  have g4 : G[h.length + 4]? = some (some (.row (List.replicate W .nilS))) := by rw [eG]; simp
  have g5 : G[h.length + 5]? = some (some (.row [.sl (.own (h.length + 4) 0) W 1 true])) := by rw [eG]; simp
  have g6 : G[h.length + 6]? = some (some (.row [.fn (.func 77) [] bb.args])) := by rw [eG]; simp
  obtain ⟨xs,exs⟩ : ∃ xs,xs = [h.length + 1,h.length + 4] := ⟨_,rfl⟩
  have hxs : ∀ c ∈ xs,c = h.length + 1 ∨ c = h.length + 4 := fun c hc => by rw [exs] at hc; simpa using hc
  have himx : h.length + 1 ∈ xs := by rw [exs]; simp
  have hiox : h.length + 4 ∈ xs := by rw [exs]; simp
  have nxs : ∀ c,c ≠ h.length + 1 → c ≠ h.length + 4 → c ∉ xs := fun c h1 h2 hc => by rcases hxs c hc with h3 | h3; exact h1 h3; exact h2 h3
  have sb : ∀ p ∈ d.people,0 ≤ p.seats ∧ p.seats ≤ 1000 := fun p hp => by have := (dg.people p hp).2.2.1; omega
  have hD : ∀ (X : Heap) (zs : List Nat),aB G X → (∀ c ∈ zs,c = h.length + 1 ∨ c = h.length + 4) → pG w0 (msk zs X) d v (.map (h.length + 1)) (h.length + 2) := fun X zs hX hz => by
   refine ⟨?_,hR.sub ?_,dg.pe,dg.pn,sb⟩
   · rw [bE fun hc => by rcases hz _ hc with h3 | h3 <;> omega]; exact hX.2 _ _ g2
   · have := (aB.toK (C := []) (hhG.trans hX)).mskm (ms := []) (ns := zs) (by simp) fun c hc => .inr (by rcases hz c hc with h3 | h3 <;> omega)
     exact this
  refine aCw (KS := [5,6,7]) (b3 := h.length) (xb := h.length + 3) (i := h.length + 2) (m := .map (h.length + 1)) (by rfl) (by rfl) g0 g3 (by simpa [msk] using hD G [] aB.refl (by simp)) dg (by decide) (fun H id nv sH hid hst hS => ?_)
  have hgl := sH.1
  have a1 : H[h.length + 1]? = some (some (.map (gW []))) := sH.2 _ _ g1
  have IH : jZ w0 d v (h.length + 2) (h.length + 1) xs H := ⟨hD H xs sH hxs,himx,fun c hc => by rcases hxs c hc with h3 | h3 <;> omega,[],a1,fun K c hc => by simp at hc⟩
  have SH : StS w0 (msk xs H) (bL d) nv := hS xs fun c hc => by rcases hxs c hc with h3 | h3 <;> omega
  have PH : lI w0 xs xs (h.length + 1) H (h.length + 4) d.weathers.length (List.replicate W []) (List.replicate W .nilS) := by
   refine ⟨by simp [eW],sH.2 _ _ g4,by simp [eW],⟨fun _ => 0,fun w l hl => ?_,fun w w' l l' _ hl _ nl _ => ?_⟩,hiox,by omega,fun c hc => hc,fun c hc => by rcases hxs c hc with h3 | h3 <;> omega,by omega⟩
   · have hw := aN hl
     simp at hw
     rw [List.getElem?_replicate,if_pos hw] at hl
     cases hl
     exact ⟨.nilS,by rw [List.getElem?_replicate,if_pos hw],.inl ⟨rfl,rfl⟩⟩
   · have hw := aN hl
     simp at hw
     rw [List.getElem?_replicate,if_pos hw] at hl
     cases hl
     exact absurd rfl nl
  have UH : BuI w0 d v (h.length + 2) (h.length + 4) bb xs H := by
   rw [ebb]
   refine ⟨?_,?_,?_,?_⟩
   · simp only; rw [bE (nxs _ (by omega) (by omega))]; exact sH.2 _ _ g0
   · simp only; rw [bE (nxs _ (by omega) (by omega))]; exact sH.2 _ _ g3
   · simp only; rw [bE (nxs _ (by omega) (by omega)),← eW]; exact sH.2 _ _ g5
   · simp only; rw [bE (nxs _ (by omega) (by omega)),← ebb]; exact sH.2 _ _ g6
  have hs0 : StN d 0 (bL d) := ⟨by simp [bL],by simp [bL],by simp [bL],fun x hx => by
   simp only [bL,List.mem_map] at hx
   obtain ⟨p,hp,rfl⟩ := hx
   exact (dg.planes p hp).1,fun x hx => by
   simp only [bL] at hx
   rw [(List.mem_replicate.1 hx).2]; simp,fun x hx => by
   simp only [bL,List.mem_map] at hx
   obtain ⟨p,hp,rfl⟩ := hx
   exact (dg.people p hp).1⟩
  have h2W : 2 ^ W ≤ 2 ^ 6 := Nat.pow_le_pow_right (by omega) hW
  have hlB : 0 + mW (aJ d) < 1000000 := by
   have hs5 := dg.s1
   have : ∀ k,k ≤ 5 → 0 + mW k < 1000000 := by decide
   exact this _ hs5
  have hcall := srch_k d v (h.length + 2) (h.length + 1) (h.length + 4) (aJ d) bb dg 0 (2 ^ W - 1) (bL d) nv xs xs xs H (List.replicate W []) (List.replicate W .nilS) (by omega) (by omega) hs0 IH SH UH PH (fun c hc => hc) himx 0 (fun l hl => by rw [(List.mem_replicate.1 hl).2]; simp) hlB
  have q1 := Sl.one (SH.sub bS).planes.s
  have q2 := Sl.one (SH.sub bS).legs.s
  have q3 := Sl.one (SH.sub bS).people.s
  have b6 : H[h.length + 6]? = some (some (.row [.fn (.func 77) [] bb.args])) := sH.2 _ _ g6
  rw [← eW]
  simp only [go_sem,b6,hst,q1.1,q2.1,q3.1,q1.2,q2.2,q3.2]
  refine aR (ACall.vc (first := []) (args := [_,_,_]) (capt := bb.args) hcall) ?_
  rintro y H5 ⟨nw,cells,n1,k5,I5,P5⟩
  have nid : id ∉ xs := nxs _ (by omega) (by omega)
  have hl5 := k5.le
  have c5 : H5[h.length + 5]? = some (some (.row [.sl (.own (h.length + 4) 0) W 1 true])) := k5.at_ _ _ (nxs _ (by omega) (by omega)) (sH.2 _ _ g5)
  have c3 : H5[h.length + 3]? = some (some (.row [.ptr (.own (h.length + 2) 0)])) := k5.at_ _ _ (nxs _ (by omega) (by omega)) (sH.2 _ _ g3)
  have cid : H5[id]? = some (some (.row (stC nv))) := k5.at_ _ _ nid hst
  have S5 : StS w0 (msk (nw ++ xs) H5) (bL d) nv := SH.sub (k5.mskm (fun c hc => .inl hc) fun c hc => by
   rcases List.mem_append.1 hc with hc | hc
   · exact .inr (n1 c hc).1
   · exact .inl hc)
  simp only [go_sem]
  refine aHc (ob := h.length + 5) (xb := h.length + 3) (sb := id) (e := 2 ^ W - 1) (ov := .sl (.own (h.length + 4) 0) W 1 true) (by rfl) (by rfl) (by rfl) (by rfl) c5 ⟨rfl,rfl⟩ c3 cid dg (by omega) I5 hs0 S5 (fun H6 k6 I6 => ?_)
  simp only [go_sem]
  have P6 := P5.keep (ns := nw ++ xs) k6 (fun c hc _ => by simpa using hc) (fun c hc => .inl hc) (fun c hc => hc) (fun c hc => Nat.lt_of_lt_of_le (P5.lt c hc) k6.le) (fun c hc => .inl (by simp at hc; subst hc; exact List.mem_append_right _ himx))
  refine ⟨?_,fun _ => ⟨.sl (.own (h.length + 4) 0) W 1 true,?_,?_⟩,fun e => ?_⟩
  · have kA : Keep xs h H6 := ((aB.toK (hhG.trans sH)).trans k5).trans (k6.more (by simp [himx]))
    have kB : Keep [] h H6 := kA.old fun c hc => .inr (by rcases hxs c hc with h3 | h3 <;> omega)
    exact ⟨kB.le,fun c b e => kB.at_ c b (by simp) e⟩
  · rw [fK,← eW]
  · have := P6.r (f := true) (w0 := w0)
    rw [fK,← eW]
    rw [← eW] at this
    exact this
  · rw [hB] at e; cases e
end Go.Proofs.Ab
namespace Go.Proofs.Ab
open Go Go.Proofs
deriving instance DecidableEq for bM
variable {w0 : World} {h : Heap}
attribute [local irreducible] ACall bY dD bA bX rvC lp rg dr ex un rv
theorem aFC (a b : List Int) (va vb : AV) (hva : SlI w0 h va a) (hvb : SlI w0 h vb b) (hn : a.length < 1000000) : bA Try.prog w0 26 [va,vb] h (.bool (decide (a = b))) h := by
 refine aQ aM aJp mf26_b mf26_g (qE rfl) (by simp [AV.bdd,AV.bdds]) fun hb ha => aU ?_
 obtain ⟨ln1,q1,ix1,r1⟩ := SlI.use hva
 obtain ⟨ln2,q2,ix2,r2⟩ := SlI.use hvb
 simp only [go_sem,mf26,ln1,ln2]
 refine ⟨fun e => ?_,fun e => ?_⟩
 · have : a ≠ b := fun x => by subst x; simp at e
   simp [this]
 · have el : a.length = b.length := by have : (a.length : Int) = b.length := by simpa using e
                                       omega
   refine dR (fun j => [(0,va),(1,vb),(5,.int .i64 j)]) (fun j => ∃ (h1 : j < a.length) (h2 : j < b.length),a[j] = b[j]) a.length rfl (fun j hj hi ih => ?_) (fun hi => ?_)
   · refine aE aM aDX [0,1,5] L26_0.eq_1 ?_
     have hjb : j < b.length := by omega
     have e1 := ix1 j hj
     have e2 := r1 j hj
     have e3 : (j : Int) < a.length := by omega
     have e4 := ix2 j hjb
     have e5 := r2 j hjb
     simp only [go_sem,e1,e2,e3,e4,e5,ln1]
     refine ⟨fun e => ?_,fun e => ⟨(by unfold I64; omega),ih ⟨hj,hjb,by simpa using e⟩⟩⟩
     have : a ≠ b := fun x => by subst x; simp at e
     simp [this]
   · refine aE aM aDX [0,1,5] L26_0.eq_1 ?_
     have e3 : ¬ (a.length : Int) < a.length := by omega
     simp only [go_sem,e3,ln1]
     have : a = b := List.ext_getElem el fun i h1 h2 => by obtain ⟨_,_,e⟩ := hi i h1; exact e
     simp [this]
theorem bM.ext_iff2 {a b : bM} : a = b ↔ a.low = b.low ∧ a.high = b.high := by cases a; cases b; simp
theorem eqa_sp (x y z w : Int) : aEL [true,true] true (.agg [.int .i64 x,.int .i64 y]) (.agg [.int .i64 z,.int .i64 w]) = some (.bool (!(decide (x = z) && decide (y = w)))) := by
 have hc : ∀ x y : Int,ceq true (.int .i64 x) (.int .i64 y) = some (decide (x = y)) := fun x y => by
  by_cases e : x = y <;> simp [ceq,e]
 simp only [aEL,fF,hc]
 by_cases e1 : x = z <;> by_cases e2 : y = w <;> simp [e1,e2]
theorem tQ (a b : List bM) (va vb : AV) (hva : Sl w0 h 2 va (a.map bM.c)) (hvb : Sl w0 h 2 vb (b.map bM.c)) (hn : a.length < 1000000) : bA Try.prog w0 21 [va,vb] h (.bool (decide (a = b))) h := by
 refine aQ aM aJs mf21_b mf21_g (qE rfl) (by simp [AV.bdd,AV.bdds]) fun hb ha => aU ?_
 obtain ⟨ln1,q1,ix1,row1,_⟩ := hva.use
 obtain ⟨ln2,q2,ix2,row2,_⟩ := hvb.use
 simp only [List.length_map] at ln1 ln2 ix1 ix2
 simp only [go_sem,mf21,ln1,ln2]
 refine ⟨fun e => ?_,fun e => ?_⟩
 · have : a ≠ b := fun x => by subst x; simp at e
   simp [this]
 · have el : a.length = b.length := by have : (a.length : Int) = b.length := by simpa using e
                                       omega
   refine dR (fun j => [(0,va),(1,vb),(5,.int .i64 j)]) (fun j => ∃ (h1 : j < a.length) (h2 : j < b.length),a[j] = b[j]) a.length rfl (fun j hj hi ih => ?_) (fun hi => ?_)
   · refine aE aM aDY [0,1,5] L21_0.eq_1 ?_
     have hjb : j < b.length := by omega
     have e1 := ix1 j hj
     have e2 : ∀ L,rdn w0 (h ++ L) (q1.add (j * 2)) 2 = some [.int .i64 a[j].low,.int .i64 a[j].high] := fun L => dJ (row1 j _ (by simp [hj]; rfl))
     have e3 : (j : Int) < a.length := by omega
     have e4 := ix2 j hjb
     have e5 : ∀ L,rdn w0 (h ++ L) (q2.add (j * 2)) 2 = some [.int .i64 b[j].low,.int .i64 b[j].high] := fun L => dJ (row2 j _ (by simp [hjb]; rfl))
     simp only [go_sem,e1,e2,e3,e4,e5,ln1,eqa_sp]
     refine ⟨fun e => ?_,fun e => ⟨(by unfold I64; omega),ih ⟨hj,hjb,bM.ext_iff2.2 (by simpa using e)⟩⟩⟩
     have : a ≠ b := fun x => by subst x; simp at e
     simp [this]
   · refine aE aM aDY [0,1,5] L21_0.eq_1 ?_
     have e3 : ¬ (a.length : Int) < a.length := by omega
     simp only [go_sem,e3,ln1]
     have : a = b := List.ext_getElem el fun i h1 h2 => by obtain ⟨_,_,e⟩ := hi i h1; exact e
     simp [this]
theorem aC.ext_iff2 {a b : aC} : a = b ↔ a.to = b.to ∧ a.people = b.people := by cases a; cases b; simp
theorem aBU (a b : List aC) (va vb : AV) (hva : UnV w0 h va a) (hvb : UnV w0 h vb b) (hn : a.length < 1000000) (hp : ∀ x ∈ a,x.people.length < 1000000) : bA Try.prog w0 47 [va,vb] h (.bool (decide (a = b))) h := by
 refine aQ aM aJc mf47_b mf47_g (qE rfl) (by simp [AV.bdd,AV.bdds]) fun hb ha => aU ?_
 have ln1 := NS.len hva
 have ln2 := NS.len hvb
 simp only [go_sem,mf47,ln1,ln2]
 refine ⟨fun e => ?_,fun e => ?_⟩
 · have : a ≠ b := fun x => by subst x; simp at e
   simp [this]
 · have el : a.length = b.length := by have : (a.length : Int) = b.length := by simpa using e
                                       omega
   refine dR (fun j => [(0,va),(1,vb),(5,.int .i64 j)]) (fun j => ∃ (h1 : j < a.length) (h2 : j < b.length),a[j] = b[j]) a.length rfl (fun j hj hi ih => ?_) (fun hi => ?_)
   · refine aE aM aDO [0,1,5] L47_0.eq_1 ?_
     have hjb : j < b.length := by omega
     obtain ⟨p1,c1,i1,r1,x1,rfl,s1⟩ := NS.at_ hva hj
     obtain ⟨p2,c2,i2,r2,x2,rfl,s2⟩ := NS.at_ hvb hjb
     have e3 : (j : Int) < a.length := by omega
     have t1 : ∀ L,rd w0 (h ++ L) (p1.add 0) = some (.int .i64 a[j].to) := fun L => cC (r1 L) (o := 0) rfl
     have t2 : ∀ L,rd w0 (h ++ L) (p1.add 1) = some x1 := fun L => cC (r1 L) (o := 1) rfl
     have u1 : ∀ L,rd w0 (h ++ L) (p2.add 0) = some (.int .i64 b[j].to) := fun L => cC (r2 L) (o := 0) rfl
     have u2 : ∀ L,rd w0 (h ++ L) (p2.add 1) = some x2 := fun L => cC (r2 L) (o := 1) rfl
     by_cases ht : a[j].to = b[j].to
     · simp only [go_sem,e3,i1,i2,t1,t2,u1,u2,ln1,ht,bne_self_eq_false]
       refine aF (aFC a[j].people b[j].people x1 x2 (Sl.app s1) (Sl.app s2) (hp _ (qG hj))).v ?_
       simp only [go_sem]
       refine ⟨fun e => ?_,fun e => ⟨(by unfold I64; omega),ih ⟨hj,hjb,aC.ext_iff2.2 ⟨ht,by simpa using e⟩⟩⟩⟩
       have : a ≠ b := fun x => by subst x; simp at e
       simp [this]
     · have ht' : (a[j].to != b[j].to) = true := by simp [ht]
       simp only [go_sem,e3,i1,i2,t1,t2,u1,u2,ln1,ht']
       have : a ≠ b := fun x => by subst x; exact ht rfl
       simp [this]
   · refine aE aM aDO [0,1,5] L47_0.eq_1 ?_
     have e3 : ¬ (a.length : Int) < a.length := by omega
     simp only [go_sem,e3,ln1]
     have : a = b := List.ext_getElem el fun i h1 h2 => by obtain ⟨_,_,e⟩ := hi i h1; exact e
     simp [this]
theorem aE5.sub {H : Heap} {l : List (List aC)} {c : List AV} (a : aE5 w0 h l c) (t : aB h H) : aE5 w0 H l c := by
 obtain ⟨x,e,n⟩ := a
 exact ⟨x,e,NS.mono n t fun _ _ ⟨y,e,u⟩ => ⟨y,e,u.sub t⟩⟩
theorem wW.sub {H : Heap} {v : AV} {p : fO} (a : wW w0 h v p) (t : aB h H) : wW w0 H v p := NS.mono a t fun _ _ r => r.sub t
theorem rA (a b : fO) (va vb : AV) (hva : wW w0 h va a) (hvb : wW w0 h vb b) (hn : a.length < 1000000) (hp : ∀ l ∈ a,l.length < 1000000 ∧ ∀ u ∈ l,u.length < 1000000 ∧ ∀ x ∈ u,x.people.length < 1000000) : bA Try.prog w0 36 [va,vb] h (.bool (decide (a = b))) h := by
 refine aQ aM aJj mf36_b mf36_g (qE rfl) (by simp [AV.bdd,AV.bdds]) fun hb ha => aU ?_
 have ln1 := NS.len hva
 have ln2 := NS.len hvb
 simp only [go_sem,mf36,ln1,ln2]
 refine ⟨fun e => ?_,fun e => ?_⟩
 · have : a ≠ b := fun x => by subst x; simp at e
   simp [this]
 · have el : a.length = b.length := by have : (a.length : Int) = b.length := by simpa using e
                                       omega
   refine dR (fun j => [(0,va),(1,vb),(5,.int .i64 j)]) (fun j => ∃ (h1 : j < a.length) (h2 : j < b.length),a[j] = b[j]) a.length rfl (fun j hj hi ih => ?_) (fun hi => ?_)
   · refine aE aM aDQ [0,1,5] L36_1.eq_1 ?_
     have hjb : j < b.length := by omega
     obtain ⟨p1,c1,i1,r1,x1,rfl,s1⟩ := NS.at_ hva hj
     obtain ⟨p2,c2,i2,r2,x2,rfl,s2⟩ := NS.at_ hvb hjb
     have e3 : (j : Int) < a.length := by omega
     have t1 : ∀ L,rd w0 (h ++ L) p1 = some x1 := fun L => vK (r1 L) rfl
     have t2 : ∀ L,rd w0 (h ++ L) p2 = some x2 := fun L => vK (r2 L) rfl
     have n1 := NS.len s1
     have n2 := NS.len s2
     have hlj := hp _ (qG hj)
     simp only [go_sem,e3,i1,i2,t1,t2,ln1,n1,n2]
     refine ⟨fun e => ?_,fun e => ?_⟩
     · have : a ≠ b := fun x => by subst x; simp at e
       simp [this]
     · have elj : a[j].length = b[j].length := by have : (a[j].length : Int) = b[j].length := by simpa using e
                                                  omega
       refine dR (fun q => [(0,va),(1,vb),(5,.int .i64 j),(6,.int .i64 q)]) (fun q => ∃ (h1 : q < a[j].length) (h2 : q < b[j].length),a[j][q] = b[j][q]) a[j].length rfl (fun q hq hi2 ih2 => ?_) (fun hi2 => ?_)
       · refine aE aM aDR [0,1,5,6] L36_0.eq_1 ?_
         have hqb : q < b[j].length := by omega
         obtain ⟨p3,c3,i3,r3,x3,rfl,s3⟩ := NS.at_ s1 hq
         obtain ⟨p4,c4,i4,r4,x4,rfl,s4⟩ := NS.at_ s2 hqb
         have t3 : ∀ L,rd w0 (h ++ L) p3 = some x3 := fun L => vK (r3 L) rfl
         have t4 : ∀ L,rd w0 (h ++ L) p4 = some x4 := fun L => vK (r4 L) rfl
         have e4 : (q : Int) < a[j].length := by omega
         have hu := hlj.2 _ (qG hq)
         simp only [go_sem,e4,i1,i2,t1,t2,n1,i3,i4,t3,t4]
         refine aF (aBU a[j][q] b[j][q] x3 x4 (s3.sub aB.refl.app) (s4.sub aB.refl.app) hu.1 hu.2).v ?_
         simp only [go_sem]
         refine ⟨fun e => ?_,fun e => ⟨(by unfold I64; omega),ih2 ⟨hq,hqb,by simpa using e⟩⟩⟩
         have : a ≠ b := fun x => by subst x; simp at e
         simp [this]
       · refine aE aM aDR [0,1,5,6] L36_0.eq_1 ?_
         have e4 : ¬ (a[j].length : Int) < a[j].length := by omega
         simp only [go_sem,e4,i1,t1,n1]
         exact ⟨(by unfold I64; omega),ih ⟨hj,hjb,List.ext_getElem elj fun i h1 h2 => by obtain ⟨_,_,e⟩ := hi2 i h1; exact e⟩⟩
   · refine aE aM aDQ [0,1,5] L36_1.eq_1 ?_
     have e3 : ¬ (a.length : Int) < a.length := by omega
     simp only [go_sem,e3,ln1]
     have : a = b := List.ext_getElem el fun i h1 h2 => by obtain ⟨_,_,e⟩ := hi i h1; exact e
     simp [this]
end Go.Proofs.Ab
namespace Go.Proofs.Ab
open Go Go.Proofs
variable {w0 : World} {h : Heap}
attribute [local irreducible] ACall bY dD bA bX rvC lp rg dr ex un rv
def gE : cH := ⟨[⟨[⟨480,600⟩],0⟩,⟨[⟨500,560⟩,⟨640,700⟩],10⟩,⟨[⟨520,580⟩,⟨690,760⟩],0⟩],[⟨30,40⟩,⟨20,50⟩]⟩
theorem aEI : fY gE = [[⟨480,520⟩],[⟨500,530⟩,⟨670,700⟩]] := by kernel_rfl
theorem aKY : eO gE = true := by kernel_rfl
theorem aCl : (if (eO gE && (inB 0 0 ((gE.legs.length : Int) - 1) && inB 521 0 1440)) = true then (if cD gE (0 : Int).toNat (521 : Int).toNat then AV.tup [.int .i64 0,.int .i64 6] else .tup [.int .i64 (aAI gE (0 : Int).toNat 521),.int .i64 0]) else .tup [.int .i64 0,.int .i64 2]) = .tup [.int .i64 40,.int .i64 0] := by kernel_rfl
theorem aKV : cD gE 0 (490 : Int).toNat = true := by kernel_rfl
theorem aKW : (eO gE && (inB 490 0 1440 && (decide (([35,45] : List Int).length = gE.legs.length) && tB gE [35,45]))) = true := by kernel_rfl
theorem aCk : aCL gE 490 [35,45] = [490,525,670,715] := by kernel_rfl
theorem exD_b : eE exD = true := by kernel_rfl
theorem exD2_b : eE exD2 = true := by kernel_rfl
def nZ (n : Nat) : iX := ⟨.sl (.own (n + 4) 0) 3 2 true,.sl (.own (n + 5) 0) 2 2 true,[.sl (.own (n + 1) 0) 1 2 true,.sl (.own (n + 2) 0) 2 2 true,.sl (.own (n + 3) 0) 2 2 true]⟩
def spc (l : List bM) : List AV := (l.map bM.c).flatten
def mZ (n : Nat) : Heap := [some (.row (cX (nZ n))),some (.row (spc [⟨480,600⟩])),some (.row (spc [⟨500,560⟩,⟨640,700⟩])),some (.row (spc [⟨520,580⟩,⟨690,760⟩])),some (.row ((fP (nZ n).ws gE.stops).flatten)),some (.row (spc gE.legs))]
theorem pS (l : List bM) : ∀ c ∈ l.map bM.c,c.length = 2 := fun c hc => by obtain ⟨x,_,rfl⟩ := List.mem_map.1 hc; rfl
theorem aKZ : gK w0 (h ++ mZ h.length) gE (nZ h.length) := by
 refine ⟨⟨rfl,?_,?_,?_⟩,by decide,by decide,by decide⟩
 · exact fH (w0 := w0) (h := h) (L := mZ h.length) (fP (nZ h.length).ws gE.stops) (es := 2) true 4 rfl (by simp [fP,nZ,gE,nM])
 · intro j x s hx hs
   match j with
   | 0 => cases hx; cases hs; exact fH (w0 := w0) (h := h) (L := mZ h.length) ([⟨480,600⟩].map bM.c) (es := 2) true 1 rfl (pS _)
   | 1 => cases hx; cases hs; exact fH (w0 := w0) (h := h) (L := mZ h.length) ([⟨500,560⟩,⟨640,700⟩].map bM.c) (es := 2) true 2 rfl (pS _)
   | 2 => cases hx; cases hs; exact fH (w0 := w0) (h := h) (L := mZ h.length) ([⟨520,580⟩,⟨690,760⟩].map bM.c) (es := 2) true 3 rfl (pS _)
   | n + 3 => simp [gE] at hs
 · exact fH (w0 := w0) (h := h) (L := mZ h.length) (gE.legs.map bM.c) (es := 2) true 5 rfl (pS _)
theorem aKX : bA Try.prog w0 60 [] h (.agg (cX (nZ h.length))) (h ++ mZ h.length) := by
 refine pB aM aI9 mf60_b mf60_g (qE rfl) (by simp [cX,nZ,AV.bdd,AV.bdds,Pl.bdd,mZ]) (fun _ => by
  simp [mZ,bJ,bZ,bR,cX,nZ,AV.bdd,AV.bdds,Pl.bdd,gE,spc,fP,nM,bM.c]) fun hb ha => aU ?_
 simp only [go_sem,mf60]
 exact ⟨rfl,rfl,rfl,rfl,rfl,rfl,rfl,trivial⟩
def exDV (n : Nat) : bO := ⟨.sl (.own (n + 1) 0) 3 2 true,.sl (.own (n + 2) 0) 2 2 true,.sl (.own (n + 3) 0) 1 5 true,.sl (.own (n + 4) 0) 1 5 true,.sl (.own (n + 7) 0) 2 1 true⟩
def wH (n : Nat) : Heap := [some (.row (aX (exDV n))),some (.row (exD.places.map iF.c).flatten),some (.row (exD.links.map cG.c).flatten),some (.row (exD.planes.map cL.c).flatten),some (.row (exD.people.map dF.c).flatten),
 some (.row [.int .i64 7,.int .i64 7,.int .i64 7]),some (.row [.int .i64 7,.int .i64 5,.int .i64 7]),some (.row [.sl (.own (n + 5) 0) 3 1 true,.sl (.own (n + 6) 0) 3 1 true])]
theorem aHQ {H : Heap} {i : Nat} {a b : AV} {l1 l2 : List Int} (hi : H[i]? = some (some (.row [a,b]))) (s1 : SlI w0 H a l1) (s2 : SlI w0 H b l2) : LI w0 H (.sl (.own i 0) 2 1 true) [l1,l2] := by
 refine ⟨[a,b].map fun c => [c],rfl,wV hi rfl,fun j x c hx hc => ?_⟩
 match j with
 | 0 => cases hx; cases hc; exact ⟨a,rfl,s1⟩
 | 1 => cases hx; cases hc; exact ⟨b,rfl,s2⟩
 | n + 2 => simp at hx
theorem exD_R : gJ w0 (h ++ wH h.length) exD (exDV h.length) := by
 refine ⟨⟨?_,?_,?_,?_,?_⟩,by decide,by decide,by decide,by decide,by decide,by decide⟩
 · exact fH (w0 := w0) (h := h) (L := wH h.length) (exD.places.map iF.c) (es := 2) true 1 rfl (by simp [iF.c])
 · exact fH (w0 := w0) (h := h) (L := wH h.length) (exD.links.map cG.c) (es := 2) true 2 rfl (by simp [cG.c])
 · exact fH (w0 := w0) (h := h) (L := wH h.length) (exD.planes.map cL.c) (es := 5) true 3 rfl (by simp [cL.c])
 · exact fH (w0 := w0) (h := h) (L := wH h.length) (exD.people.map dF.c) (es := 5) true 4 rfl (by simp [dF.c])
 · refine aHQ (a := .sl (.own (h.length + 5) 0) 3 1 true) (b := .sl (.own (h.length + 6) 0) 3 1 true) (by rw [qI (by omega)]; simp [wH]) ?_ ?_
   · exact fH (w0 := w0) (h := h) (L := wH h.length) ([7,7,7].map fun z => [AV.int .i64 z]) (es := 1) true 5 rfl (by simp)
   · exact fH (w0 := w0) (h := h) (L := wH h.length) ([7,5,7].map fun z => [AV.int .i64 z]) (es := 1) true 6 rfl (by simp)
theorem exD_c : bA Try.prog w0 61 [] h (.agg (aX (exDV h.length))) (h ++ wH h.length) := by
 refine pB aM aI8 mf61_b mf61_g (qE rfl) (by simp [aX,exDV,AV.bdd,AV.bdds,Pl.bdd,wH]) (fun _ => by
  simp [wH,bJ,bZ,bR,aX,exDV,AV.bdd,AV.bdds,Pl.bdd,exD,iF.c,cG.c,cL.c,dF.c]) fun hb ha => aU ?_
 simp only [go_sem,mf61]
 exact ⟨rfl,rfl,rfl,rfl,rfl,rfl,rfl,rfl,rfl,trivial⟩
theorem aFi {H : Heap} {a b : Int} : SlI w0 (H ++ [some (.row [.int .i64 a,.int .i64 b])]) (.sl (.own H.length 0) 2 1 true) [a,b] :=
 fH (w0 := w0) (h := H) (L := [some (.row [.int .i64 a,.int .i64 b])]) ([a,b].map fun z => [AV.int .i64 z]) (es := 1) true 0 rfl (by simp)
def NewC (w0 : World) (h : Heap) (y : AV) (H : Heap) : Prop := aB h H ∧ ∃ v,y = .agg (cX v) ∧ gK w0 H gE v
theorem zW : ACall Try.prog w0 60 [] h (NewC w0 h) := by
 have e := aKX (w0 := w0) (h := h)
 unfold bA at e
 exact e.mono fun _ _ ⟨e1,e2⟩ => ⟨e2 ▸ aB.refl.app,_,e1,e2 ▸ aKZ⟩
def NewD (w0 : World) (h : Heap) (y : AV) (H : Heap) : Prop := aB h H ∧ ∃ v,y = .agg (aX v) ∧ gJ w0 H exD v
theorem exD_n : ACall Try.prog w0 61 [] h (NewD w0 h) := by
 have e := exD_c (w0 := w0) (h := h)
 unfold bA at e
 exact e.mono fun _ _ ⟨e1,e2⟩ => ⟨e2 ▸ aB.refl.app,_,e1,e2 ▸ exD_R⟩
theorem aAd {H : Heap} {i : Nat} {t : Int} {p : AV} {l : List Int} (hi : H[i]? = some (some (.row [.int .i64 t,p]))) (hp : SlI w0 H p l) : UnV w0 H (.sl (.own i 0) 1 2 true) [⟨t,l⟩] := by
 refine ⟨[[.int .i64 t,p]],rfl,eP (w0 := w0) (rows := [[AV.int .i64 t,p]]) (es := 2) hi (by simp),fun j x c hx hc => ?_⟩
 match j with
 | 0 => cases hx; cases hc; exact ⟨p,rfl,hp⟩
 | n + 1 => simp at hx
set_option maxRecDepth 20000 in
theorem oS : bA Try.prog w0 17 [] h (.bool true) h := by
 refine nF trivial (aY aM aJu mf17_b mf17_g (qE rfl) fun hb ha => aU ?_)
 simp only [go_sem,mf17]
 refine aR (ACall.vc (first := []) (args := []) zW) ?_
 rintro _ H0 ⟨s0,v0,rfl,R0⟩
 simp only [go_sem]
 refine aR (ACall.vc (first := []) (args := [.agg (cX v0)]) (aH8 gE v0 R0)) ?_
 rintro y H1 ⟨s1,hK1⟩
 rw [if_pos aKY,aEI] at hK1
 obtain ⟨lv,rfl,hl⟩ := hK1
 simp only [go_sem]
 refine aR (ACall.vc (first := []) (args := []) zW) ?_
 rintro _ H2 ⟨s2,v1,rfl,R1⟩
 simp only [go_sem]
 have q1 : SlI w0 (H2 ++ [some (.row [.int .i64 35,.int .i64 45])]) (.sl (.own H2.length 0) 2 1 true) [35,45] := aFi
 have s3 : aB H2 (H2 ++ [some (.row [.int .i64 35,.int .i64 45])]) := aB.refl.app
 generalize AV.sl (.own H2.length 0) 2 1 true = xv at q1 ⊢
 generalize H2 ++ [some (.row [.int .i64 35,.int .i64 45])] = H3 at q1 s3 ⊢
 refine aR (ACall.vc (first := []) (args := [.agg (cX v1),.int .i64 490,xv]) (Ride_c gE v1 490 [35,45] xv (R1.sub s3) q1 (by decide))) ?_
 rintro y H4 ⟨s4,hK2⟩
 rw [if_pos aKW,if_pos aKV,aCk] at hK2
 obtain ⟨rv_,rfl,hr⟩ := hK2
 simp only [go_sem]
 refine aR (ACall.vc (first := []) (args := []) zW) ?_
 rintro _ H5 ⟨s5,v2,rfl,R2⟩
 simp only [go_sem]
 refine aR (ACall.vc (first := []) (args := [.agg (cX v2),.int .i64 0,.int .i64 521]) (Miss_c gE v2 0 521 R2)) ?_
 rintro y H6 ⟨s6,hK3⟩
 rw [aCl] at hK3
 subst hK3
 simp only [go_sem]
 refine aR (ACall.vc (first := []) (args := []) exD_n) ?_
 rintro _ H7 ⟨s7,d0,rfl,D0⟩
 simp only [go_sem]
 refine aR (ACall.vc (first := []) (args := [.agg (aX d0)]) (aAa exD d0 D0)) ?_
 rintro y H8 ⟨s8,hK4,_⟩
 obtain ⟨pv,rfl,hp⟩ := hK4 exD_b
 rw [aHb] at hp ⊢
 simp only [go_sem]
 refine aR (ACall.vc (first := []) (args := []) exD_n) ?_
 rintro _ H9 ⟨s9,d1,rfl,D1⟩
 have o1 := D1.places.one
 have o2 := D1.links.one
 have o3 := D1.planes.one
 have o4 := D1.people.one
 have o5 : one d1.we = true ∧ cellsOf d1.we = some [d1.we] := by obtain ⟨rows,_,h2,_⟩ := D1.weathers; exact h2.one
 simp only [go_sem,o1.1,o2.1,o3.1,o4.1,o5.1,o1.2,o2.2,o3.2,o4.2,o5.2]
 obtain ⟨H10,eH10⟩ : ∃ H10 : Heap,H10 = H9 ++ [some (.row [d1.pl,d1.ln,d1.pn,d1.pe,.sl (.own (H9.length + 3) 0) 2 1 true]),some (.row [.int .i64 7,.int .i64 7]),some (.row [.int .i64 7,.int .i64 5]),some (.row [.sl (.own (H9.length + 1) 0) 2 1 true,.sl (.own (H9.length + 2) 0) 2 1 true])] := ⟨_,rfl⟩
 rw [← eH10]
 have s10 : aB H9 H10 := eH10 ▸ aB.refl.app
 have w10 : LI w0 H10 (.sl (.own (H9.length + 3) 0) 2 1 true) [[7,7],[7,5]] := by
  refine aHQ (a := .sl (.own (H9.length + 1) 0) 2 1 true) (b := .sl (.own (H9.length + 2) 0) 2 1 true) (by rw [eH10,qI (by omega)]; simp) ?_ ?_
  · rw [eH10]
    exact fH (w0 := w0) (h := H9) ([7,7].map fun z => [AV.int .i64 z]) (es := 1) true 1 rfl (by simp)
  · rw [eH10]
    exact fH (w0 := w0) (h := H9) ([7,5].map fun z => [AV.int .i64 z]) (es := 1) true 2 rfl (by simp)
 obtain ⟨wv,ewv⟩ : ∃ wv,wv = AV.sl (.own (H9.length + 3) 0) 2 1 true := ⟨_,rfl⟩
 rw [← ewv] at w10 ⊢
 have D2 : gJ w0 H10 exD2 ⟨d1.pl,d1.ln,d1.pn,d1.pe,wv⟩ := ⟨⟨D1.places.sub s10,D1.links.sub s10,D1.planes.sub s10,D1.people.sub s10,w10⟩,by decide,by decide,by decide,by decide,by decide,by decide⟩
 refine aR (ACall.vc (first := []) (args := [.agg [d1.pl,d1.ln,d1.pn,d1.pe,wv]]) (aAa exD2 _ D2)) ?_
 rintro y H11 ⟨s11,hK5,_⟩
 obtain ⟨pv2,rfl,_⟩ := hK5 exD2_b
 rw [aEH]
 have t8 : aB H8 H11 := s9.trans (s10.trans s11)
 have t4 : aB H4 H11 := s5.trans (s6.trans (s7.trans (s8.trans t8)))
 have t1 : aB H1 H11 := s2.trans (s3.trans (s4.trans t4))
 have th : aB h H11 := (aB.refl.app : aB h (h ++ [])).trans (s0.trans (s1.trans t1))
 have hl' : LS w0 H11 lv _ := hl.sub t1
 have hr' : SlI w0 H11 rv_ _ := Sl.sub hr t4
 have hp' : wW w0 H11 pv _ := hp.sub t8
 clear hl hr hp R0 R1 R2 D0 D1 D2 s0 s1 s2 s3 s4 s5 s6 s7 s8 s9 s10 s11 t8 t4 t1 q1 w10 hK4 hK5 o1 o2 o3 o4 o5 eH10
 have ln : fN lv = some (.int .i64 2) := NS.len hl'
 obtain ⟨p0,x0,i0,r0,sp0⟩ := LS.at_ hl' (j := 0) (by decide)
 obtain ⟨p1,x1,i1,r1,sp1⟩ := LS.at_ hl' (j := 1) (by decide)
 simp only [go_sem,ln]
 obtain ⟨H12,eH12⟩ : ∃ H12 : Heap,H12 = H11 ++ [some (.row [.int .i64 1,.nilS]),some (.row [.int .i64 (-1),.nilS]),some (.row [.int .i64 0]),some (.row [.int .i64 0,.sl (.own (H11.length + 2) 0) 1 1 true]),some (.row [.sl (.own H11.length 0) 1 2 true,.sl (.own (H11.length + 1) 0) 1 2 true,.sl (.own (H11.length + 3) 0) 1 2 true])] := ⟨_,rfl⟩
 rw [← eH12]
 have s12 : aB H11 H12 := eH12 ▸ aB.refl.app
 have g0 : H12[H11.length]? = some (some (.row [.int .i64 1,.nilS])) := by rw [eH12,qI (by omega)]; simp
 have g1 : H12[H11.length + 1]? = some (some (.row [.int .i64 (-1),.nilS])) := by rw [eH12,qI (by omega)]; simp
 have g2 : H12[H11.length + 2]? = some (some (.row [.int .i64 0])) := by rw [eH12,qI (by omega)]; simp
 have g3 : H12[H11.length + 3]? = some (some (.row [.int .i64 0,.sl (.own (H11.length + 2) 0) 1 1 true])) := by rw [eH12,qI (by omega)]; simp
 have g4 : H12[H11.length + 4]? = some (some (.row [.sl (.own H11.length 0) 1 2 true,.sl (.own (H11.length + 1) 0) 1 2 true,.sl (.own (H11.length + 3) 0) 1 2 true])) := by rw [eH12,qI (by omega)]; simp
 have z0 := aAd (w0 := w0) g0 (l := []) (.inl ⟨rfl,rfl⟩)
 have z1 := aAd (w0 := w0) g1 (l := []) (.inl ⟨rfl,rfl⟩)
 have z2 := aAd (w0 := w0) g3 (l := [0]) (wV (l := [.int .i64 0]) g2 rfl)
 have zz : ∃ zv,zv = AV.sl (.own (H11.length + 4) 0) 3 1 true ∧ NS w0 H12 1 (nJ w0 H12) zv exU := by
  refine ⟨_,rfl,_,rfl,wV g4 rfl,fun j x c hx hc => ?_⟩
  match j with
  | 0 => cases hx; cases hc; exact ⟨_,rfl,z0⟩
  | 1 => cases hx; cases hc; exact ⟨_,rfl,z1⟩
  | 2 => cases hx; cases hc; exact ⟨_,rfl,z2⟩
  | n + 3 => simp [exU] at hx
 obtain ⟨zv,ezv,zR⟩ := zz
 rw [← ezv]
 have hl2 := hl'.sub s12
 have hr2 : SlI w0 H12 rv_ _ := Sl.sub hr' s12
 have hp2 := hp'.sub s12
 have th2 := th.trans s12
 have r0' : ∀ L,rd w0 (H12 ++ L) p0 = some x0 := fun L => by rw [eH12,List.append_assoc]; exact r0 _
 have r1' : ∀ L,rd w0 (H12 ++ L) p1 = some x1 := fun L => by rw [eH12,List.append_assoc]; exact r1 _
 have r0n := r0' []
 rw [List.append_nil] at r0n
 have sp0' := sp0.sub s12
 have sp1' := sp1.sub s12
 clear hl' hr' hp' th g0 g1 g2 g3 g4 z0 z1 z2 r0 r1 sp0 sp1 s12 eH12 ezv
 simp only [go_sem,i0,i1,r0',r0n]
 have q0 : ∀ L,Sl w0 (H12 ++ [some (.row [.int .i64 480,.int .i64 520])] ++ L) 2 (.sl (.own H12.length 0) 1 2 true) ([⟨480,520⟩].map bM.c) := fun L => by
  refine eP (w0 := w0) (rows := [⟨480,520⟩].map bM.c) (es := 2) ?_ (pS _)
  rw [List.append_assoc,qI (Nat.le_refl _)]; simp [bM.c]
 refine aF (tQ [⟨480,520⟩] [⟨480,520⟩] _ _ sp0'.app (by simpa using q0 []) (by decide)).v ?_
 simp only [go_sem,i1,r1']
 refine aF (tQ [⟨500,530⟩,⟨670,700⟩] [⟨500,530⟩,⟨670,700⟩] _ _ sp1'.app (fH (w0 := w0) (h := H12) ([⟨500,530⟩,⟨670,700⟩].map bM.c) (es := 2) true 1 rfl (pS _)) (by decide)).v ?_
 simp only [go_sem]
 refine aF (aFC [490,525,670,715] [490,525,670,715] _ _ (Sl.app hr2) (fH (w0 := w0) (h := H12) ([490,525,670,715].map fun z => [AV.int .i64 z]) (es := 1) true 2 rfl (by simp)) (by decide)).v ?_
 have oz : one zv = true ∧ cellsOf zv = some [zv] := by obtain ⟨rows,_,h2,_⟩ := zR; exact h2.one
 simp only [go_sem,oz.1,oz.2]
 refine aF (rA [exU,exU] [exU,exU] _ _ (hp2.sub aB.refl.app) ?_ (by decide) (by decide)).v ?_
 · exact ⟨[[zv],[zv]],rfl,fH (w0 := w0) (h := H12) [[zv],[zv]] (es := 1) true 3 rfl (by simp),fun j x c hx hc => by
    match j with
    | 0 => cases hx; cases hc; exact ⟨_,rfl,NS.mono zR aB.refl.app fun _ _ ⟨y,e,u⟩ => ⟨y,e,u.sub aB.refl.app⟩⟩
    | 1 => cases hx; cases hc; exact ⟨_,rfl,NS.mono zR aB.refl.app fun _ _ ⟨y,e,u⟩ => ⟨y,e,u.sub aB.refl.app⟩⟩
    | n + 2 => simp at hx⟩
 simp only [go_sem]
 exact th2.app
end Go.Proofs.Ab

/- The own layer under the proofs of this seat, part J: what calls of the program come to on an abstract heap. No condition. -/
import Derived.Test.YtiaaonmbgkealaaI
import Derived.Test.YtiaaonmbgkealaaG
set_option linter.unusedSimpArgs false
set_option linter.unusedVariables false
namespace Go.Proofs.Ab
open Go Go.Proofs
def wAt (d : aO) (w t : Nat) : Int := (d.weathers.getD w []).getD t 0
def aJ (d : aO) : Nat := (d.weathers.headD []).length
def fW (d : aO) (left slot w : Nat) : Nat → Nat
 | 0 => 0
 | v + 1 => if aV left v && decide (wAt d v slot = wAt d w slot) then fW d left slot w v ||| 2 ^ v else fW d left slot w v
def cI (d : aO) (ws slot : Nat) : Nat → Nat × List Nat
 | 0 => (ws,[])
 | w + 1 =>
  let st := cI d ws slot w
  if aV st.1 w then (st.1 ^^^ (st.1 &&& fW d st.1 slot w d.weathers.length),st.2 ++ [fW d st.1 slot w d.weathers.length]) else st
def cV (d : aO) (ws slot : Nat) : List Nat := (cI d ws slot d.weathers.length).2
def gD (ws : Nat) : Nat → Nat
 | 0 => 0
 | n + 1 => if aV ws 0 then 0 else gD (ws / 2) n + 1
def zY (d : aO) (s : aD) (op : Int) (plane to : Nat) : Bool :=
 cN d (s.planes.getD plane 0) to && (aV op.toNat (s.planes.getD plane 0).toNat && aV op.toNat to) && decide (s.legs.getD plane 0 < (d.planes.getD plane ⟨0,0,0,0,0⟩).duty)
def xE (d : aO) (s : aD) (at_ : Int) (n : Nat) (seats : Int) (gone : Nat) : Bool :=
 decide (s.people.getD n 0 = at_) && !aV gone n && decide ((d.people.getD n ⟨0,0,0,0,0⟩).seats ≤ seats)
def lJ (d : aO) (s : aD) (at_ to : Int) : Nat → List Int → Int → Nat → List (aC × Nat)
 | 0,_,_,_ => []
 | k + 1,l,seats,gone =>
  let n := d.people.length - (k + 1)
  (if xE d s at_ n seats gone then (⟨to,l ++ [(n : Int)]⟩,gone ||| 2 ^ n) :: lJ d s at_ to k (l ++ [(n : Int)]) (seats - (d.people.getD n ⟨0,0,0,0,0⟩).seats) (gone ||| 2 ^ n) else []) ++ lJ d s at_ to k l seats gone
def xX (d : aO) (s : aD) (at_ to : Int) (k : Nat) (l : List Int) (seats : Int) (gone : Nat) : List (aC × Nat) := (⟨to,l⟩,gone) :: lJ d s at_ to k l seats gone
def fD (d : aO) (s : aD) (op : Int) (plane gone : Nat) : Nat → List (aC × Nat)
 | 0 => []
 | k + 1 =>
  let to := d.places.length - (k + 1)
  (if zY d s op plane to then xX d s (s.planes.getD plane 0) to d.people.length [] (d.planes.getD plane ⟨0,0,0,0,0⟩).seats gone else []) ++ fD d s op plane gone k
def gX (d : aO) (s : aD) (op : Int) (plane gone : Nat) : List (aC × Nat) := (⟨-1,[]⟩,gone) :: fD d s op plane gone d.places.length
def eX (d : aO) (s : aD) (op : Int) : Nat → Nat → List aC → List (List aC × aD)
 | 0,_,u => if (fC d s op u).2.1 = 1 then [(u,(fC d s op u).1)] else []
 | k + 1,gone,u => (gX d s op (d.planes.length - (k + 1)) gone).flatMap fun x => eX d s op k x.2 (u ++ [x.1])
def cK (d : aO) (s : aD) (op : Int) : List (List aC × aD) := eX d s op d.planes.length 0 []
def gV (next : aD → Int) (b : Int) (x : List aC × aD) : Int := if b < 0 || decide (next x.2 < b) then next x.2 else b
def jF (d : aO) (next : Nat → aD → Int) (slot g : Nat) (s : aD) : Int := (cK d s (wAt d (gD g d.weathers.length) slot)).foldl (gV (next g)) (-1)
def bF (d : aO) : Nat → Nat → aD → Int
 | 0,_,s => wJ d s
 | k + 1,ws,s => (cV d ws (aJ d - (k + 1))).foldl (fun m g => max m (jF d (bF d k) (aJ d - (k + 1)) g s)) 0
def dS (d : aO) (k slot g : Nat) (s : aD) : Int := jF d (bF d k) slot g s
abbrev fO := List (List (List aC))
def lH (g : Nat) (u : List aC) (out : fO) : Nat → fO
 | 0 => out
 | w + 1 => if aV g w then (lH g u out w).set w ((lH g u out w).getD w [] ++ [u]) else lH g u out w
def iB (d : aO) : Nat → Nat → aD → fO → fO
 | 0,_,_,out => out
 | k + 1,ws,s,out => (cV d ws (aJ d - (k + 1))).foldl (fun out g =>
  match (cK d s (wAt d (gD g d.weathers.length) (aJ d - (k + 1)))).find? fun x => !decide (dS d k (aJ d - (k + 1)) g s < bF d k g x.2) with
  | none => out
  | some x => iB d k g x.2 (lH g x.1 out d.weathers.length)) out
def bL (d : aO) : aD := ⟨d.planes.map (·.at_),List.replicate d.planes.length 0,d.people.map (·.at_)⟩
def fK (d : aO) : fO × Int :=
 (iB d (aJ d) (2 ^ d.weathers.length - 1) (bL d) (List.replicate d.weathers.length []),bF d (aJ d) (2 ^ d.weathers.length - 1) (bL d))
def exD : aO := ⟨[⟨2,true⟩,⟨1,false⟩,⟨1,true⟩],[⟨0,1⟩,⟨0,2⟩],[⟨0,0,2,3,3⟩],[⟨1,0,1,10,4⟩],[[7,7,7],[7,5,7]]⟩
def exD2 : aO := { exD with weathers := [[7,7],[7,5]] }
deriving instance DecidableEq for aC
def exU : List (List aC) := [[⟨1,[]⟩],[⟨-1,[]⟩],[⟨0,[0]⟩]]
theorem aHb : fK exD = ([exU,exU],0) := by kernel_rfl
theorem aEH : (fK exD2).2 = 10 := by kernel_rfl
end Go.Proofs.Ab
namespace Go.Proofs.Ab
open Go Go.Proofs
variable {w0 : World} {h : Heap}
attribute [local irreducible] ACall bY dD bA bX rvC lp rg dr ex un rv
def SlN (h : Heap) (v : AV) (l : List Int) : Prop := (l = [] ∧ v = .nilS) ∨ (l ≠ [] ∧ ∃ id f,v = .sl (.own id 0) l.length 1 f ∧ h[id]? = some (some (.row (aS l))))
theorem SlN.sub {H : Heap} {v : AV} {l : List Int} (a : SlN h v l) (t : aB h H) : SlN H v l := by
 rcases a with a | ⟨a,id,f,e1,e2⟩
 · exact .inl a
 · exact .inr ⟨a,id,f,e1,t.2 _ _ e2⟩
theorem SlN.nil : SlN h .nilS [] := .inl ⟨rfl,rfl⟩
theorem SlN.s {v : AV} {l : List Int} (a : SlN h v l) : SlI w0 h v l := by
 rcases a with ⟨rfl,rfl⟩ | ⟨hl,id,f,rfl,hk⟩
 · exact .inl ⟨rfl,rfl⟩
 · have := eP (w0 := w0) (H := h) (full := f) (io := id) (rows := l.map fun z => [AV.int .i64 z]) (es := 1) (by rw [← dL]; exact hk) (fun c hc => by obtain ⟨x,_,rfl⟩ := List.mem_map.1 hc; rfl)
   simpa [SlI] using this
theorem SlN.own {H : Heap} {k : Nat} {l : List Int} {f : Bool} (hk : H[k]? = some (some (.row (aS l)))) (hl : l ≠ []) : SlN H (.sl (.own k 0) l.length 1 f) l := .inr ⟨hl,k,f,rfl,hk⟩
def aEY : AV → AV
 | .sl p n es _ => .sl (p.add 0) n es true
 | v => v
theorem SlN.cap {v : AV} {l : List Int} (a : SlN h v l) {fr : Fr} {hi mx : Opd} (e1 : bU (hi.ev fr) = some l.length) (e2 : bU (mx.ev fr) = some l.length) : uG 1 fr v none (some hi) (some mx) = some (aEY v) := by
 rcases a with ⟨rfl,rfl⟩ | ⟨hl,id,f,rfl,hk⟩
 · simp [uG,yS,e1,e2,bdK,aEY]
 · simp [uG,yS,e1,e2,bdK,aEY,eQ,fB]
theorem SlN.more {v : AV} {l : List Int} (a : SlN h v l) {L : Heap} {n : Int} {k : Nat} {f : Bool} (hk : (h ++ L)[k]? = some (some (.row [.int .i64 n]))) (hl : l.length < 1000000) :
 dH w0 (h ++ L) 1 8 (aEY v) (.sl (.own k 0) 1 1 f) = some (.sl (.own (h.length + L.length) 0) (l.length + 1) 1 false,h ++ (L ++ [some (.row (aS (l ++ [n])))])) := by
 have hr : rdn w0 (h ++ L) (.own k 0) (1 * 1) = some [.int .i64 n] := by simp [rdn,hk]
 rcases a with ⟨rfl,rfl⟩ | ⟨hl0,id,f',rfl,hk'⟩
 · simp [dH,srcOf,eQ,hr,aEY,lA,aS,one]
 · have hr2 : rdn w0 (h ++ L) (.own id 0) (l.length * 1) = some (aS l) := by
    have : (h ++ L)[id]? = some (some (.row (aS l))) := aA hk'
    simp only [rdn,this]
    rw [if_pos (by simp)]
    simp [List.take_of_length_le]
   rw [Nat.mul_one] at hr2
   have hb : (l.length + 1) * (8 + 1) ≤ 2 ^ 40 := by omega
   simp [dH,srcOf,eQ,hr,aEY,lA,one,Pl.add,hr2]
   refine ⟨by omega,?_⟩
   simp [aS]
def aCC (w0 : World) (C : List Nat) (x : aC × Nat) (H : Heap) (args : List AV) : Prop := ∃ pv,args = [.agg [.int .i64 x.1.to,pv],.int .i64 (x.2 : Int)] ∧ SlN (msk C H) pv x.1.people
structure MoB where
 by_ : Nat
 bt : Nat
 bd : Nat
 bs : Nat
 ba : Nat
 bm : Nat
def MoB.args (b : MoB) : List AV := [.ptr (.own b.by_ 0),.ptr (.own b.bt 0),.ptr (.own b.bd 0),.ptr (.own b.bs 0),.ptr (.own b.ba 0),.ptr (.own b.bm 0)]
structure MoI (w0 : World) (C : List Nat) (d : aO) (v : bO) (m : AV) (i : Nat) (s : aD) (sv : StV) (q : Nat) (at_ to : Int) (b : MoB) (H : Heap) : Prop where
 b1 : (msk C H)[b.by_]? = some (some (.row [.yld q]))
 b2 : (msk C H)[b.bt]? = some (some (.row [.int .i64 to]))
 b3 : (msk C H)[b.bd]? = some (some (.row [.ptr (.own i 0)]))
 b4 : (msk C H)[b.bs]? = some (some (.row (stC sv)))
 b5 : (msk C H)[b.ba]? = some (some (.row [.int .i64 at_]))
 b6 : (msk C H)[b.bm]? = some (some (.row [.fn (.func 148) [] b.args]))
 hD : pG w0 (msk C H) d v m i
 hs : StS w0 (msk C H) s sv
section
variable {C : List Nat} {d : aO} {v : bO} {m : AV} {i : Nat} {s : aD} {sv : StV} {q : Nat} {at_ to : Int} {b : MoB} {H H' : Heap}
theorem pG.sub (a : pG w0 H d v m i) (t : aB H H') : pG w0 H' d v m i := ⟨t.2 _ _ a.hd,a.R.sub t,a.dl,a.pl,a.sb⟩
theorem MoI.keep (a : MoI w0 C d v m i s sv q at_ to b H) (t : Keep C H H') : MoI w0 C d v m i s sv q at_ to b H' := by
 have hs := t.msk (ms := C) fun i hi => .inl hi
 exact ⟨hs.2 _ _ a.b1,hs.2 _ _ a.b2,hs.2 _ _ a.b3,hs.2 _ _ a.b4,hs.2 _ _ a.b5,hs.2 _ _ a.b6,a.hD.sub hs,a.hs.sub hs⟩
end
theorem Pl.bdd_add {p : Pl} {N z : Nat} (h : p.bdd N) : (p.add z).bdd N := by cases p <;> exact h
theorem oE {g n : Nat} : (((g / 2 ^ n % 2 : Nat) : Int) == 1) = aV g n := by
 rw [Bool.eq_iff_iff,aV,beq_iff_eq,decide_eq_true_iff]; omega
theorem aFQ {g n k : Nat} (hg : g < 2 ^ k) (hn : n < k) : g ||| 2 ^ n < 2 ^ k := Nat.or_lt_two_pow hg (Nat.pow_lt_pow_right (by omega) hn)
theorem more_c (C : List Nat) (d : aO) (v : bO) (m : AV) (i : Nat) (s : aD) (sv : StV) (q : Nat) (at_ to : Int) (b : MoB) (K : Heap → Prop) (sk : jN d s) :
 ∀ (k : Nat) (l : List Int) (lv : AV) (seats : Int) (gone : Nat) (r : List (aC × Nat)) (h : Heap),(∀ i ∈ C,i < h.length) → k ≤ d.people.length → l.length + k ≤ d.people.length → (0 ≤ seats ∧ seats ≤ 1000) → gone < 2 ^ 4 → SlN (msk C h) lv l → MoI w0 C d v m i s sv q at_ to b h →
  fS Try.prog w0 q C (aCC w0 C) (· = []) K (xX d s at_ to k l seats gone ++ r) [] h →
  ACall Try.prog w0 148 ([lv,.int .i64 ((d.people.length - k : Nat) : Int),.int .i64 seats,.int .i64 (gone : Int)] ++ b.args) h fun y H => Keep C h H ∧ IterR Try.prog w0 q C (aCC w0 C) (· = []) K r y [] H := by
 intro k
 induction k using Nat.strongRecOn with
 | ind k ihk =>
  intro l lv seats gone r h hCl hk hlk hse hg hl hM hI
  refine aY aM aF8 aJC aJB (qE rfl) fun hb ha => aU ?_
  have un1 := bS (ms := C) (A := h)
  have c1 : ∀ L,(h ++ L)[b.by_]? = some (some (.row [.yld q])) := fun L => aA (un1.2 _ _ hM.b1)
  have c2 : ∀ L,(h ++ L)[b.bt]? = some (some (.row [.int .i64 to])) := fun L => aA (un1.2 _ _ hM.b2)
  have hg62 : gone < 2 ^ 62 := by omega
  have dl := hM.hD.dl
  have hl1 := (hl.sub un1).s (w0 := w0)
  have ol := Sl.one hl1
  simp only [go_sem,mf148,MoB.args,c1,c2,ol.2]
  refine aR (fS.call hI aB.refl.app.toK [] rfl (fun i hi => by cases hi) (fun i hi => by cases hi) ⟨lv,rfl,hl.sub oT⟩) ?_
  rintro y H1 ⟨k1,r1⟩
  rw [List.append_nil] at k1
  rcases r1 with ⟨rfl,it⟩ | ⟨rfl,kk⟩
  rotate_left
  · simp only [go_sem]
    exact ⟨k1,.inr ⟨rfl,kk⟩⟩
  simp only [go_sem]
  refine cM (S := Nat × Heap) (F := fun t => [(0,lv),(2,.int .i64 seats),(3,.int .i64 (gone : Int)),(6,.ptr (.own b.bd 0)),(7,.ptr (.own b.bs 0)),(8,.ptr (.own b.ba 0)),(9,.ptr (.own b.bm 0)),(15,.int .i64 ((d.people.length - t.1 : Nat) : Int))])
   (H := fun t => t.2) (meas := fun t => t.1) (Inv := fun t => t.1 ≤ k ∧ Keep C h t.2 ∧ fS Try.prog w0 q C (aCC w0 C) (· = []) K (lJ d s at_ to t.1 l seats gone ++ r) [] t.2) (k,H1) ⟨Nat.le_refl _,k1,it⟩ rfl rfl ?_
  rintro ⟨k',H⟩ ⟨hk',kp,it⟩ ih
  simp only at hk' kp it ih ⊢
  have hM' := hM.keep kp
  have un2 := bS (ms := C) (A := H)
  have c3 : ∀ L,(H ++ L)[b.bd]? = some (some (.row [.ptr (.own i 0)])) := fun L => aA (un2.2 _ _ hM'.b3)
  have c4 : ∀ L,(H ++ L)[b.bs]? = some (some (.row (stC sv))) := fun L => aA (un2.2 _ _ hM'.b4)
  have c5 : ∀ L,(H ++ L)[b.ba]? = some (some (.row [.int .i64 at_])) := fun L => aA (un2.2 _ _ hM'.b5)
  have c6 : ∀ L,(H ++ L)[b.bm]? = some (some (.row [.fn (.func 148) [] b.args])) := fun L => aA (un2.2 _ _ hM'.b6)
  have ci : ∀ L,(H ++ L)[i]? = some (some (.row (aX v ++ [m]))) := fun L => aA (un2.2 _ _ hM'.hD.hd)
  have c3' := c3 []
  have c4' := c4 []
  have c5' := c5 []
  have c6' := c6 []
  have ci' := ci []
  rw [List.append_nil] at c3' c4' c5' c6' ci'
  have lnp : fN v.pe = some (.int .i64 d.people.length) := by simpa using (hM'.hD.R.people.use).1
  refine aE aM aHS [0,2,3,6,7,8,9,15] L148_0.eq_1 ?_
  cases k' with
  | zero =>
   have e1 : ¬ ((d.people.length - 0 : Nat) : Int) < d.people.length := by omega
   simp only [go_sem,c3',ci',lnp,e1]
   exact ⟨kp,.inl ⟨rfl,it⟩⟩
  | succ k' =>
   obtain ⟨n,en⟩ : ∃ n,n = d.people.length - (k' + 1) := ⟨_,rfl⟩
   have en' : ((d.people.length - k' : Nat) : Int) = (n : Int) + 1 := by omega
   have hnl : n < d.people.length := by omega
   have hns : n < s.people.length := by rw [sk.s3]; exact hnl
   rw [lJ,← en] at it
   rw [← en]
   have e1 : (n : Int) < d.people.length := by omega
   obtain ⟨_,a,ai,ar⟩ := SlI.use (hM'.hs.people.s)
   obtain ⟨_,a',ai',ar'⟩ := SlI.use (hM'.hs.sub un2).people.s
   have a1 := ai' n hns
   have a2 := ar' n hns
   have a2' := a2 []
   rw [List.append_nil] at a2'
   have s1 := hT (a := gone) (n := n) (by omega)
   have s2 := gZ (a := gone / 2 ^ n) (Nat.lt_of_le_of_lt (Nat.div_le_self _ _) hg62)
   obtain ⟨_,p,pi,pr,pb⟩ := (hM'.hD.sub un2).R.people.use
   have q1 := pi n (by simpa using hnl)
   have q2 : ∀ L,rd w0 (H ++ L) ((p.add (n * 5)).add 2) = some (.int .i64 (d.people.getD n ⟨0,0,0,0,0⟩).seats) := fun L => by
    have := pr n (d.people.getD n ⟨0,0,0,0,0⟩).c (by rw [List.getElem?_map,qA hnl,aI hnl]; rfl)
    exact lV (cC this (o := 2) rfl)
   have q2' := q2 []
   rw [List.append_nil] at q2'
   have sb : 0 ≤ (d.people.getD n ⟨0,0,0,0,0⟩).seats ∧ (d.people.getD n ⟨0,0,0,0,0⟩).seats ≤ 1000 := by rw [aI hnl]; exact hM.hD.sb _ (qG hnl)
   have egn : s.people.getD n 0 = s.people[n] := aI hns
   have skip : xE d s at_ n seats gone = false → lp Try.prog w0 none 90 h.length (resK w0 [RV.t 14] fun y H => Keep C h H ∧ IterR Try.prog w0 q C (aCC w0 C) (· = []) K r y [] H) L148_0 [It.inBlk 0,It.code ((SC.reg [MIx.op (some 14) none (MOp.mov (Opd.k (AV.bool true)))]).seq SC.ret)]
    [(0,lv),(2,.int .i64 seats),(3,.int .i64 (gone : Int)),(6,.ptr (.own b.bd 0)),(7,.ptr (.own b.bs 0)),(8,.ptr (.own b.ba 0)),(9,.ptr (.own b.bm 0)),(15,.int .i64 ((n : Int) + 1))] H := fun em => by
    have := ih (k',H) ⟨by simp only; omega,kp,by simpa [em] using it⟩ (by simp only; omega)
    simpa only [en'] using this
   by_cases hA : s.people[n] = at_
   · cases hB : aV gone n with
     | true =>
      simp only [go_sem,c3',c4',c5',ci',lnp,e1,a1,a2',hA,s1,s2,oE,hB,bne_self_eq_false]
      exact ⟨(by unfold I64; omega),skip (by simp [xE,hB])⟩
     | false =>
      by_cases hC : (d.people.getD n ⟨0,0,0,0,0⟩).seats ≤ seats
      · have hC' : ¬ seats < (d.people.getD n ⟨0,0,0,0,0⟩).seats := by omega
        simp only [go_sem,c3',c4',c5',ci',lnp,e1,a1,a2',hA,s1,s2,oE,hB,bne_self_eq_false,q1,q2',hC']
        have hlH := (hl.sub (kp.msk (ms := C) fun i hi => .inl hi)).sub un2
        have hcap := fun fr hi mx => hlH.cap (fr := fr) (hi := hi) (mx := mx)
        have hln : fN lv = some (.int .i64 l.length) := (SlI.use (hlH.s (w0 := w0))).1
        have hmore := fun f => hlH.more (w0 := w0) (L := [some (.row [.int .i64 (n : Int)])]) (n := (n : Int)) (k := H.length) (f := f) (by simp) (by omega)
        have s3 := oF (n := n) (by omega)
        have s4 := aHs (a := gone) (b := 2 ^ n) hg62 (Nat.pow_lt_pow_right (by omega) (show n < 62 by omega))
        have hil := aN ci'
        have hbd := aN c3'
        refine jT aM [0,1,2,3,4,5,6,7,8,9,10,11,12,13,14,15,16,17,18,19,20,21,22,23,24,25,26,27,28] [o_ 61 (l_ 9),o_ 62 (m_ 0),o_ 63 (m_ 0),o_ 64 (.len (.t 63)),o_ 65 (m_ 0),o_ 66 (.len (.t 65)),o_ 67 (.slc 1 (.t 62) none (some (.t 64)) (some (.t 66))),o_ 68 (m_ 15),o_ 69 (.bslice 1 [(.int .i64 0)] 1 [(0,1,(.t 68))]),o_ 70 (.app 1 [(.int .i64 0)] 8 (.t 67) (.t 69))] [([(0,o_ 61 (l_ 9))],[o_ 71 (m_ 15),o_ 72 (.bin .add (.t 71) (i_ 1)),o_ 73 (m_ 2),o_ 74 (l_ 6),o_ 75 (.nilck (.t 74)),o_ 76 (.addr (.t 75) 0),o_ 77 (.addr (.t 76) 3),o_ 78 (l_ 77),o_ 79 (m_ 15),o_ 80 (.idxs 5 (.t 78) (.t 79)),o_ 81 (.addr (.t 80) 2),o_ 82 (l_ 81),o_ 83 (.bin .sub (.t 73) (.t 82)),o_ 84 (m_ 3),o_ 85 (m_ 15),o_ 86 (.bin .shl (i_ 1) (.t 85)),o_ 87 (.bin .or (.t 84) (.t 86)),.call (some 88) none (.t 61) [(.t 70),(.t 72),(.t 83),(.t 87)],o_ 89 (.un .not (.t 88))])] rfl rfl (by kernel_rfl) ?_
        simp only [go_sem,c3,c4,c5,c6,ci,c3',c6',ci',hln,hcap,hmore,q1,q2,s3,s4]
        obtain ⟨H2,eH2⟩ : ∃ H2,H2 = H ++ [some (Blk.row [.int .i64 (n : Int)]),some (Blk.row (aS (l ++ [(n : Int)])))] := ⟨_,rfl⟩
        have hs2 : aB H H2 := by rw [eH2]; exact aB.refl.app
        have hlen := kp.le
        have hmk : ∀ c ∈ C,c < H.length := fun c hc => by have := hCl c hc; omega
        have hem : xE d s at_ n seats gone = true := by simp only [xE,egn,hA,hB,hC,decide_true,Bool.not_false,Bool.and_true]
        rw [hem] at it
        have it2 := it.keep (H2 := H2) hs2.toK
        have hl2 : SlN (msk C H2) (.sl (.own (H.length + 1) 0) (l.length + 1) 1 false) (l ++ [(n : Int)]) := by
         have : (msk C H2)[H.length + 1]? = some (some (.row (aS (l ++ [(n : Int)])))) := by
          rw [bE (fun hc => by have := hmk _ hc; omega),eH2]; simp
         have := SlN.own (f := false) this (by simp)
         simpa using this
        have hc := ihk k' (by omega) (l ++ [(n : Int)]) (.sl (.own (H.length + 1) 0) (l.length + 1) 1 false) (seats - (d.people.getD n ⟨0,0,0,0,0⟩).seats) (gone ||| 2 ^ n) (lJ d s at_ to k' l seats gone ++ r) H2
         (fun c hc => by have := hmk c hc; have := hs2.1; omega) (by omega) (by simp; omega) ⟨by omega,by omega⟩ (aFQ hg (by omega)) hl2 (hM'.keep hs2.toK) (by simpa [xX] using it2)
        rw [en'] at hc
        rw [← eH2]
        refine ⟨(by unfold I64; omega),(by unfold I64; omega),?_⟩
        refine aR (ACall.vc (first := []) (args := [_,_,_,_]) (by simpa using hc)) ?_
        rintro y H3 ⟨k3,r3⟩
        have kp3 : Keep C h H3 := (kp.trans hs2.toK).trans k3
        rcases r3 with ⟨rfl,it3⟩ | ⟨rfl,kk3⟩
        · simp only [go_sem]
          refine ⟨(by unfold I64; omega),?_⟩
          have := ih (k',H3) ⟨by simp only; omega,kp3,it3⟩ (by simp only; omega)
          simpa only [en'] using this
        · simp only [go_sem]
          exact ⟨kp3,.inr ⟨rfl,kk3⟩⟩
      · have hC' : seats < (d.people.getD n ⟨0,0,0,0,0⟩).seats := by omega
        simp only [go_sem,c3',c4',c5',ci',lnp,e1,a1,a2',hA,s1,s2,oE,hB,bne_self_eq_false,q1,q2',hC']
        exact ⟨(by unfold I64; omega),skip (by simp only [xE,hC,decide_false,Bool.and_false])⟩
   · have hA' : (s.people[n] != at_) = true := by simp [hA]
     simp only [go_sem,c3',c4',c5',ci',lnp,e1,a1,a2',hA']
     exact ⟨(by unfold I64; omega),skip (by simp only [xE,egn,hA,decide_false,Bool.false_and])⟩
structure FtB where
 bd : Nat
 bs : Nat
 bo : Nat
 bp : Nat
 bg : Nat
def FtB.args (b : FtB) : List AV := [.ptr (.own b.bg 0),.ptr (.own b.bs 0),.ptr (.own b.bp 0),.ptr (.own b.bd 0),.ptr (.own b.bo 0)]
structure FtI (w0 : World) (C : List Nat) (d : aO) (v : bO) (m : AV) (i : Nat) (s : aD) (sv : StV) (op : Int) (plane gone : Nat) (b : FtB) (H : Heap) : Prop where
 b1 : (msk C H)[b.bd]? = some (some (.row [.ptr (.own i 0)]))
 b2 : (msk C H)[b.bs]? = some (some (.row (stC sv)))
 b3 : (msk C H)[b.bo]? = some (some (.row [.int .i64 op]))
 b4 : (msk C H)[b.bp]? = some (some (.row [.int .i64 (plane : Int)]))
 b5 : (msk C H)[b.bg]? = some (some (.row [.int .i64 (gone : Int)]))
 hD : pG w0 (msk C H) d v m i
 hs : StS w0 (msk C H) s sv
theorem FtI.keep {C : List Nat} {d : aO} {v : bO} {m : AV} {i : Nat} {s : aD} {sv : StV} {op : Int} {plane gone : Nat} {b : FtB} {H H' : Heap} (a : FtI w0 C d v m i s sv op plane gone b H) (t : Keep C H H') : FtI w0 C d v m i s sv op plane gone b H' := by
 have hs := t.msk (ms := C) fun i hi => .inl hi
 exact ⟨hs.2 _ _ a.b1,hs.2 _ _ a.b2,hs.2 _ _ a.b3,hs.2 _ _ a.b4,hs.2 _ _ a.b5,a.hD.sub hs,a.hs.sub hs⟩
theorem zZ {o a t : Nat} : (((((o / 2 ^ a &&& o / 2 ^ t) % 2 : Nat) : Int)) == 0) = !(aV o a && aV o t) := by
 rw [← aBe]
 rcases Nat.mod_two_eq_zero_or_one (o / 2 ^ a &&& o / 2 ^ t) with e | e <;> rw [e] <;> rfl
theorem aEB (C : List Nat) (d : aO) (v : bO) (m : AV) (i : Nat) (s : aD) (sv : StV) (q : Nat) (op : Int) (plane gone : Nat) (b : FtB) (K : Heap → Prop) (sk : jN d s) (hp : plane < d.planes.length) (ps : ∀ p ∈ d.planes,0 ≤ p.seats ∧ p.seats ≤ 1000) (o1 : 0 ≤ op) (o2 : op < 2 ^ 50)
 (hCl : ∀ i ∈ C,i < h.length) (hg : gone < 2 ^ 4) (hF : FtI w0 C d v m i s sv op plane gone b h) (hI : fS Try.prog w0 q C (aCC w0 C) (· = []) K (gX d s op plane gone) [] h) :
 ACall Try.prog w0 146 (.yld q :: b.args) h fun _ H => K H := by
 refine aY aM aGa aJG aJF (qE rfl) fun hb ha => aU ?_
 have un1 := bS (ms := C) (A := h)
 have c1 : ∀ L,(h ++ L)[b.bd]? = some (some (.row [.ptr (.own i 0)])) := fun L => aA (un1.2 _ _ hF.b1)
 have c2 : ∀ L,(h ++ L)[b.bs]? = some (some (.row (stC sv))) := fun L => aA (un1.2 _ _ hF.b2)
 have c3 : ∀ L,(h ++ L)[b.bo]? = some (some (.row [.int .i64 op])) := fun L => aA (un1.2 _ _ hF.b3)
 have c4 : ∀ L,(h ++ L)[b.bp]? = some (some (.row [.int .i64 (plane : Int)])) := fun L => aA (un1.2 _ _ hF.b4)
 have c5 : ∀ L,(h ++ L)[b.bg]? = some (some (.row [.int .i64 (gone : Int)])) := fun L => aA (un1.2 _ _ hF.b5)
 simp only [go_sem,mf146,FtB.args,c1,c2,c3,c4,c5]
 refine aR (fS.call hI aB.refl.app.toK [] rfl (fun i hi => by cases hi) (fun i hi => by cases hi) ⟨.nilS,rfl,SlN.nil⟩) ?_
 rintro y H1 ⟨k1,r1⟩
 have hly : (h ++ [some (Blk.row [AV.yld q])])[h.length]? = some (some (.row [.yld q])) := by simp
 have kh : Keep C h H1 := aB.refl.app.toK.trans k1
 have hyC : h.length ∉ C := fun hc => by have := hCl _ hc; omega
 have hy1 : H1[h.length]? = some (some (.row [.yld q])) := k1.at_ _ _ hyC hly
 clear hly k1 c1 c2 c3 c4 c5
 rcases r1 with ⟨rfl,it⟩ | ⟨rfl,kk⟩
 rotate_left
 · simp only [go_sem]
   exact kk _ Keep.refl
 have hF1 := hF.keep kh
 have un2 := bS (ms := C) (A := H1)
 have d2 : H1[b.bs]? = some (some (.row (stC sv))) := un2.2 _ _ hF1.b2
 have d4 : H1[b.bp]? = some (some (.row [.int .i64 (plane : Int)])) := un2.2 _ _ hF1.b4
 have d1 : ∀ L,(H1 ++ L)[b.bd]? = some (some (.row [.ptr (.own i 0)])) := fun L => aA (un2.2 _ _ hF1.b1)
 have di : ∀ L,(H1 ++ L)[i]? = some (some (.row (aX v ++ [m]))) := fun L => aA (un2.2 _ _ hF1.hD.hd)
 obtain ⟨_,a,ai,ar⟩ := SlI.use (hF1.hs.sub un2).planes.s
 have hps : plane < s.planes.length := by rw [sk.s1]; exact hp
 have hls : plane < s.legs.length := by rw [sk.s2]; exact hp
 have a1 := ai plane hps
 have a2 := ar plane hps []
 rw [List.append_nil] at a2
 have hat := sk.at_ _ (qG hps)
 obtain ⟨x,ex'⟩ : ∃ x : Nat,s.planes[plane] = x := ⟨s.planes[plane].toNat,by omega⟩
 have egp : s.planes.getD plane 0 = x := by rw [aI hps,ex']
 rw [ex'] at a2
 have lnp : fN v.pl = some (.int .i64 d.places.length) := by simpa using hF1.hD.R.places.use.1
 simp only [go_sem,d2,d4,a1,a2,d1,di,lnp]
 obtain ⟨H2,eH2⟩ : ∃ H2,H2 = H1 ++ [some (Blk.row [.int .i64 (x : Int)])] := ⟨_,rfl⟩
 rw [← eH2]
 have hs12 : aB H1 H2 := by rw [eH2]; exact aB.refl.app
 have hb2 : H2[H1.length]? = some (some (.row [.int .i64 (x : Int)])) := by rw [eH2]; simp
 have haC : H1.length ∉ C := fun hc => by have := hCl _ hc; have := kh.le; omega
 refine cM (S := Nat × Heap) (F := fun t => [(1,.ptr (.own b.bg 0)),(2,.ptr (.own b.bs 0)),(3,.ptr (.own b.bp 0)),(4,.ptr (.own b.bd 0)),(5,.ptr (.own b.bo 0)),(6,.ptr (.own h.length 0)),(7,.ptr (.own H1.length 0)),(25,.int .i64 (d.places.length : Int)),(26,.int .i64 ((d.places.length - t.1 : Nat) : Int))])
  (H := fun t => t.2) (meas := fun t => t.1) (Inv := fun t => t.1 ≤ d.places.length ∧ Keep C H2 t.2 ∧ fS Try.prog w0 q C (aCC w0 C) (· = []) K (fD d s op plane gone t.1) [] t.2) (d.places.length,H2) ⟨Nat.le_refl _,Keep.refl,it.keep hs12.toK⟩ (by simp) rfl ?_
 rintro ⟨k',H⟩ ⟨hk',kp,it⟩ ih
 simp only at hk' kp it ih ⊢
 have kH : Keep C h H := (kh.trans hs12.toK).trans kp
 have hF' := hF.keep kH
 have un3 := bS (ms := C) (A := H)
 have yb : ∀ L,(H ++ L)[h.length]? = some (some (.row [.yld q])) := fun L => aA (kp.at_ _ _ hyC (hs12.2 _ _ hy1))
 have ab : ∀ L,(H ++ L)[H1.length]? = some (some (.row [.int .i64 (x : Int)])) := fun L => aA (kp.at_ _ _ haC hb2)
 refine aE aM aHT [1,2,3,4,5,6,7,25,26] L146_0.eq_1 ?_
 cases k' with
 | zero =>
  have e1 : ¬ ((d.places.length - 0 : Nat) : Int) < d.places.length := by omega
  simp only [go_sem,e1]
  exact it _ Keep.refl
 | succ k' =>
  obtain ⟨n,en⟩ : ∃ n,n = d.places.length - (k' + 1) := ⟨_,rfl⟩
  have en' : ((d.places.length - k' : Nat) : Int) = (n : Int) + 1 := by omega
  have hnl : n < d.places.length := by omega
  rw [fD,← en] at it
  rw [← en]
  have e1 : (n : Int) < d.places.length := by omega
  have f1 : ∀ L,(H ++ L)[b.bd]? = some (some (.row [.ptr (.own i 0)])) := fun L => aA (un3.2 _ _ hF'.b1)
  have f2 : ∀ L,(H ++ L)[b.bs]? = some (some (.row (stC sv))) := fun L => aA (un3.2 _ _ hF'.b2)
  have f3 : ∀ L,(H ++ L)[b.bo]? = some (some (.row [.int .i64 op])) := fun L => aA (un3.2 _ _ hF'.b3)
  have f4 : ∀ L,(H ++ L)[b.bp]? = some (some (.row [.int .i64 (plane : Int)])) := fun L => aA (un3.2 _ _ hF'.b4)
  have f5 : ∀ L,(H ++ L)[b.bg]? = some (some (.row [.int .i64 (gone : Int)])) := fun L => aA (un3.2 _ _ hF'.b5)
  have fi : ∀ L,(H ++ L)[i]? = some (some (.row (aX v ++ [m]))) := fun L => aA (un3.2 _ _ hF'.hD.hd)
  have hD' := hF'.hD.sub un3
  have pl5 := hD'.R.l1
  obtain ⟨o,eo⟩ : ∃ o : Nat,op = o := ⟨op.toNat,by omega⟩
  have o62 : o < 2 ^ 62 := by omega
  have s1 : bin .shr (.int .i64 op) (.int .i64 (n : Int)) = some (.int .i64 ((o / 2 ^ n : Nat) : Int)) := by rw [eo]; exact hT (by omega)
  have s2 : bin .shr (.int .i64 op) (.int .i64 (x : Int)) = some (.int .i64 ((o / 2 ^ x : Nat) : Int)) := by rw [eo]; exact hT (by omega)
  have dd1 : o / 2 ^ n < 2 ^ 62 := Nat.lt_of_le_of_lt (Nat.div_le_self _ _) o62
  have dd2 : o / 2 ^ x < 2 ^ 62 := Nat.lt_of_le_of_lt (Nat.div_le_self _ _) o62
  have s3 := aBg dd2 dd1
  have s4 := gZ (a := o / 2 ^ x &&& o / 2 ^ n) (Nat.lt_of_le_of_lt Nat.and_le_left dd2)
  obtain ⟨_,lq,li,lr⟩ := SlI.use (hF'.hs.sub un3).legs.s
  have l1 := li plane hls
  have l2 := lr plane hls
  obtain ⟨_,p,pi,pr,_⟩ := hD'.R.planes.use
  have p1 := pi plane (by simpa using hp)
  have p2 : ∀ L,rd w0 (H ++ L) ((p.add (plane * 5)).add 3) = some (.int .i64 (d.planes.getD plane ⟨0,0,0,0,0⟩).duty) := fun L => by
   have := pr plane (d.planes.getD plane ⟨0,0,0,0,0⟩).c (by rw [List.getElem?_map,qA hp,aI hp]; rfl)
   exact lV (cC this (o := 3) rfl)
  have p3 : ∀ L,rd w0 (H ++ L) ((p.add (plane * 5)).add 2) = some (.int .i64 (d.planes.getD plane ⟨0,0,0,0,0⟩).seats) := fun L => by
   have := pr plane (d.planes.getD plane ⟨0,0,0,0,0⟩).c (by rw [List.getElem?_map,qA hp,aI hp]; rfl)
   exact lV (cC this (o := 2) rfl)
  have hlk := fun L => (aAN (w0 := w0) (h := H ++ L) d v m (x : Int) (n : Int) (fi L) hD'.R.links.app hD'.R.l2).v
  have lgp : s.legs.getD plane 0 = s.legs[plane] := aI hls
  have skip : ∀ H',Keep C H2 H' → aB H H' → zY d s op plane n = false → lp Try.prog w0 none 77 h.length (resK w0 [] fun _ H => K H) L146_0 [It.inBlk 0]
   [(1,.ptr (.own b.bg 0)),(2,.ptr (.own b.bs 0)),(3,.ptr (.own b.bp 0)),(4,.ptr (.own b.bd 0)),(5,.ptr (.own b.bo 0)),(6,.ptr (.own h.length 0)),(7,.ptr (.own H1.length 0)),(25,.int .i64 (d.places.length : Int)),(26,.int .i64 ((n : Int) + 1))] H' := fun H' kk hs em => by
   have := ih (k',H') ⟨by simp only; omega,kk,by have := it.keep (H2 := H') hs.toK; simpa [em] using this⟩ (by simp only; omega)
   simpa only [en'] using this
  have hs0 : aB H (H ++ [some (Blk.row [.int .i64 (n : Int)])]) := aB.refl.app
  have ecb : zY d s op plane n = (cN d (x : Int) (n : Int) && (aV o x && aV o n) && decide (s.legs[plane] < (d.planes.getD plane ⟨0,0,0,0,0⟩).duty)) := by
   rw [zY,egp,lgp,eo]; simp only [Int.toNat_natCast]
  cases hA : cN d (x : Int) (n : Int) with
  | false =>
   simp only [go_sem,e1,f1,ab]
   refine aF (hlk _) ?_
   simp only [go_sem,hA]
   exact ⟨(by unfold I64; omega),skip _ (kp.trans hs0.toK) hs0 (by rw [ecb,hA]; rfl)⟩
  | true =>
   cases hB : (aV o x && aV o n) with
   | false =>
    simp only [go_sem,e1,f1,ab]
    refine aF (hlk _) ?_
    simp only [go_sem,hA,f3,ab,s1,s2,s3,s4,zZ,hB]
    exact ⟨(by unfold I64; omega),skip _ (kp.trans hs0.toK) hs0 (by rw [ecb,hB]; simp)⟩
   | true =>
    by_cases hC : s.legs[plane] < (d.planes.getD plane ⟨0,0,0,0,0⟩).duty
    · have hC' : ¬ (d.planes.getD plane ⟨0,0,0,0,0⟩).duty ≤ s.legs[plane] := by omega
      simp only [go_sem,e1,f1,ab]
      refine aF (hlk _) ?_
      simp only [go_sem,hA,f1,f2,f3,f4,fi,ab,s1,s2,s3,s4,zZ,hB,l1,l2,p1,p2,hC']
      refine yJ aM aD3.eq_1 (by kernel_rfl) ?_
      simp only [go_sem,f1,f2,f3,f4,f5,fi,ab,p1,p3]
      obtain ⟨mb,emb⟩ : ∃ mb : MoB,mb = ⟨h.length,H.length,b.bd,b.bs,H1.length,H.length + 1⟩ := ⟨_,rfl⟩
      have eargs : mb.args = [AV.ptr (Pl.own h.length 0),AV.ptr (Pl.own H.length 0),AV.ptr (Pl.own b.bd 0),AV.ptr (Pl.own b.bs 0),AV.ptr (Pl.own H1.length 0),AV.ptr (Pl.own (H.length + 1) 0)] := by rw [emb]; rfl
      rw [← eargs]
      obtain ⟨HX,eHX⟩ : ∃ HX,HX = H ++ [some (Blk.row [.int .i64 (n : Int)]),some (Blk.row [.fn (.func 148) [] mb.args])] := ⟨_,rfl⟩
      rw [← eHX]
      have hsX : aB H HX := by rw [eHX]; exact aB.refl.app
      have kX : Keep C h HX := kH.trans hsX.toK
      have hFX := hF.keep kX
      have hCH : ∀ c,h.length ≤ c → c ∉ C := fun c hc hcc => by have := hCl _ hcc; omega
      have hle := kH.le
      have hM : MoI w0 C d v m i s sv q (x : Int) (n : Int) mb HX := by
       rw [emb] at eHX ⊢
       refine ⟨?_,?_,hFX.b1,hFX.b2,?_,?_,hFX.hD,hFX.hs⟩
       · simp only; rw [bE (hCH _ (Nat.le_refl _)),eHX]; exact yb _
       · simp only; rw [bE (hCH _ hle),eHX]; simp
       · simp only; rw [bE haC,eHX]; exact ab _
       · simp only; rw [bE (hCH _ (by omega)),eHX]; simp
      have em : zY d s op plane n = true := by rw [ecb,hA,hB]; simp only [hC,decide_true,Bool.and_true]
      rw [em,egp] at it
      have it2 := it.keep (H2 := HX) hsX.toK
      have hgs : 0 ≤ (d.planes.getD plane ⟨0,0,0,0,0⟩).seats ∧ (d.planes.getD plane ⟨0,0,0,0,0⟩).seats ≤ 1000 := by rw [aI hp]; exact ps _ (qG hp)
      have hc := more_c C d v m i s sv q (x : Int) (n : Int) mb K sk d.people.length [] .nilS (d.planes.getD plane ⟨0,0,0,0,0⟩).seats gone (fD d s op plane gone k') HX (fun c hc => by have := hCl c hc; have := kX.le; omega) (Nat.le_refl _) (by simp) hgs hg SlN.nil hM (by simpa using it2)
      rw [Nat.sub_self] at hc
      refine aR (ACall.vc (first := []) (args := [_,_,_,_]) (by simpa using hc)) ?_
      rintro y H3 ⟨k3,r3⟩
      have kp3 : Keep C H2 H3 := (kp.trans hsX.toK).trans k3
      rcases r3 with ⟨rfl,it3⟩ | ⟨rfl,kk3⟩
      · simp only [go_sem]
        refine ⟨(by unfold I64; omega),?_⟩
        have := ih (k',H3) ⟨by simp only; omega,kp3,it3⟩ (by simp only; omega)
        simpa only [en'] using this
      · simp only [go_sem]
        exact kk3 _ Keep.refl
    · have hC' : (d.planes.getD plane ⟨0,0,0,0,0⟩).duty ≤ s.legs[plane] := by omega
      simp only [go_sem,e1,f1,ab]
      refine aF (hlk _) ?_
      simp only [go_sem,hA,f1,f2,f3,f4,fi,ab,s1,s2,s3,s4,zZ,hB,l1,l2,p1,p2,hC']
      exact ⟨(by unfold I64; omega),skip _ (kp.trans hs0.toK) hs0 (by rw [ecb]; simp only [hC,decide_false,Bool.and_false])⟩
theorem aCf (i : Nat) (sv : StV) (op : Int) (plane gone : Nat) (o1 : one sv.pl = true ∧ cellsOf sv.pl = some [sv.pl]) (o2 : one sv.le = true ∧ cellsOf sv.le = some [sv.le]) (o3 : one sv.pe = true ∧ cellsOf sv.pe = some [sv.pe]) :
 bA Try.prog w0 125 [.ptr (.own i 0),.agg (stC sv),.int .i64 op,.int .i64 (plane : Int),.int .i64 (gone : Int)] h
  (.fn (.func 146) [] (FtB.args ⟨h.length,h.length + 1,h.length + 2,h.length + 3,h.length + 4⟩))
  (h ++ [some (.row [.ptr (.own i 0)]),some (.row (stC sv)),some (.row [.int .i64 op]),some (.row [.int .i64 (plane : Int)]),some (.row [.int .i64 (gone : Int)])]) := by
 refine pB aM aGm aJ4 aJ3 (qE rfl) (by simp [FtB.args,AV.bdd,AV.bdds,Pl.bdd]) (fun hb => ?_) fun hb ha => aU ?_
 · simp only [AV.bdds,AV.bdd,Pl.bdd,stC] at hb
   obtain ⟨h1,⟨h2,h3,h4,_⟩,_⟩ := hb
   simp [bJ,bN,bZ,cJ,cY,bR,AV.bdds,AV.bdd,Pl.bdd,bI,stC]
   exact ⟨by omega,AV.bdd_mono (by omega) _ h2,AV.bdd_mono (by omega) _ h3,AV.bdd_mono (by omega) _ h4⟩
 · simp only [go_sem,mf125,o1.2,o2.2,o3.2,o1.1,o2.1,o3.1,FtB.args]
structure tK (d : aO) (x : aC) : Prop where
 lo : -1 ≤ x.to
 hi : x.to < d.places.length
 pp : ∀ n ∈ x.people,0 ≤ n ∧ n < d.people.length
 pl : x.people.length ≤ d.people.length
theorem aFk {d : aO} {s : aD} {at_ : Int} {to : Nat} (hd : d.people.length ≤ 4) (hto : to < d.places.length) : ∀ (k : Nat) (l : List Int) (seats : Int) (gone : Nat),k ≤ d.people.length → l.length + k ≤ d.people.length → (∀ n ∈ l,0 ≤ n ∧ n < d.people.length) → gone < 2 ^ 4 →
 ∀ x ∈ lJ d s at_ to k l seats gone,tK d x.1 ∧ x.2 < 2 ^ 4 := by
 intro k
 induction k with
 | zero => intro l seats gone _ _ _ _ x hx; simp [lJ] at hx
 | succ k ih =>
  intro l seats gone hk hlk hl hg x hx
  rw [lJ] at hx
  have hn : d.people.length - (k + 1) < d.people.length := by omega
  rcases List.mem_append.1 hx with hx | hx
  · split at hx
    · have hl' : ∀ n ∈ l ++ [((d.people.length - (k + 1) : Nat) : Int)],0 ≤ n ∧ n < d.people.length := fun n hn' => by
       rcases List.mem_append.1 hn' with hn' | hn'
       · exact hl n hn'
       · simp at hn'; subst hn'; omega
      rcases List.mem_cons.1 hx with rfl | hx
      · exact ⟨⟨by simp only; omega,by simp only; omega,hl',by simp; omega⟩,aFQ hg (by omega)⟩
      · exact ih _ _ _ (by omega) (by simp; omega) hl' (aFQ hg (by omega)) x hx
    · cases hx
  · exact ih _ _ _ (by omega) (by omega) hl hg x hx
theorem tY {d : aO} {s : aD} {op : Int} {plane gone : Nat} (hd : d.people.length ≤ 4) (hp : 0 < d.places.length) (hg : gone < 2 ^ 4) : ∀ x ∈ gX d s op plane gone,tK d x.1 ∧ x.2 < 2 ^ 4 := by
 have key : ∀ k,k ≤ d.places.length → ∀ x ∈ fD d s op plane gone k,tK d x.1 ∧ x.2 < 2 ^ 4 := by
  intro k
  induction k with
  | zero => intro _ x hx; simp [fD] at hx
  | succ k ih =>
   intro hk x hx
   rw [fD] at hx
   rcases List.mem_append.1 hx with hx | hx
   · split at hx
     · rw [xX] at hx
       rcases List.mem_cons.1 hx with rfl | hx
       · exact ⟨⟨by simp only; omega,by simp only; omega,by simp,by simp⟩,hg⟩
       · exact aFk hd (by omega) _ _ _ _ (Nat.le_refl _) (by simp) (by simp) hg x hx
     · cases hx
   · exact ih (by omega) x hx
 intro x hx
 rw [gX] at hx
 rcases List.mem_cons.1 hx with rfl | hx
 · exact ⟨⟨by simp,by simp only; omega,by simp,by simp⟩,hg⟩
 · exact key _ (Nat.le_refl _) x hx
structure URow (C : List Nat) (H : Heap) (iu P : Nat) (u : List aC) (rows : List (List AV)) : Prop where
 hb : H[iu]? = some (some (.row rows.flatten))
 len : rows.length = P
 two : ∀ c ∈ rows,c.length = 2
 one : ∀ c ∈ rows,c.all one = true
 at_ : ∀ (j : Nat) x,u[j]? = some x → ∃ pv,rows[j]? = some [.int .i64 x.to,pv] ∧ SlN (msk C H) pv x.people
theorem aA0 {rows : List (List AV)} (h : ∀ c ∈ rows,c.length = 2) : rows.flatten.length = rows.length * 2 := by
 induction rows with
 | nil => rfl
 | cons c rows ih =>
  rw [List.flatten_cons,List.length_append,h c List.mem_cons_self,ih fun x hx => h x (List.mem_cons_of_mem _ hx),List.length_cons]; omega
theorem aHa {rows : List (List AV)} (h : ∀ c ∈ rows,c.length = 2) {j : Nat} (hj : j < rows.length) {a b : AV} : rows.flatten.take (j * 2) ++ (a :: b :: rows.flatten.drop (j * 2 + 2)) = (rows.set j [a,b]).flatten := by
 induction rows generalizing j with
 | nil => simp at hj
 | cons c rows ih =>
  have hc := h c List.mem_cons_self
  obtain ⟨x,y,rfl⟩ : ∃ x y,c = [x,y] := by
   match c,hc with
   | [x,y],_ => exact ⟨x,y,rfl⟩
  cases j with
  | zero => simp
  | succ j =>
   have := ih (fun x hx => h x (List.mem_cons_of_mem _ hx)) (j := j) (by simpa using hj)
   rw [show (j + 1) * 2 = j * 2 + 1 + 1 by omega,show j * 2 + 1 + 1 + 2 = j * 2 + 2 + 1 + 1 by omega]
   simp only [List.flatten_cons,List.cons_append,List.nil_append,List.take_succ_cons,List.drop_succ_cons,List.set_cons_succ,this]
theorem URow.sl {C : List Nat} {H : Heap} {iu P : Nat} {u : List aC} {rows : List (List AV)} (a : URow C H iu P u rows) {f : Bool} : Sl w0 H 2 (.sl (.own iu 0) P 2 f) rows := by
 have := eP (w0 := w0) (H := H) (full := f) (io := iu) (rows := rows) (es := 2) a.hb a.two
 rwa [a.len] at this
theorem URow.keep {C D : List Nat} {H H' : Heap} {iu P : Nat} {u : List aC} {rows : List (List AV)} (a : URow C H iu P u rows) (t : Keep D H H') (hi : iu ∉ D) (hD : ∀ i ∈ D,i ∈ C ∨ H.length ≤ i) : URow C H' iu P u rows :=
 ⟨t.at_ _ _ hi a.hb,a.len,a.two,a.one,fun j x hx => by
  obtain ⟨pv,h1,h2⟩ := a.at_ j x hx
  exact ⟨pv,h1,h2.sub (t.msk hD)⟩⟩
theorem URow.remask {C C' : List Nat} {H H' : Heap} {iu P : Nat} {u : List aC} {rows : List (List AV)} (a : URow C H iu P u rows) (hb : H'[iu]? = H[iu]?) (t : aB (msk C H) (msk C' H')) : URow C' H' iu P u rows :=
 ⟨by rw [hb]; exact a.hb,a.len,a.two,a.one,fun j x hx => by
  obtain ⟨pv,h1,h2⟩ := a.at_ j x hx
  exact ⟨pv,h1,h2.sub t⟩⟩
theorem URow.put {C : List Nat} {H : Heap} {iu P : Nat} {u : List aC} {rows : List (List AV)} (a : URow C H iu P u rows) (hiC : iu ∈ C) {x : aC} {pv : AV} (hu : u.length < P) (hp : SlN (msk C H) pv x.people) (ho : Ab.one pv = true) :
 URow C (H.set iu (some (.row (rows.set u.length [.int .i64 x.to,pv]).flatten))) iu P (u ++ [x]) (rows.set u.length [.int .i64 x.to,pv]) := by
 have hl := aN a.hb
 refine ⟨qF hl,by rw [List.length_set,a.len],fun c hc => ?_,fun c hc => ?_,fun j y hy => ?_⟩
 · rcases List.mem_or_eq_of_mem_set hc with hc | rfl
   · exact a.two c hc
   · rfl
 · rcases List.mem_or_eq_of_mem_set hc with hc | rfl
   · exact a.one c hc
   · simp only [List.all_cons,List.all_nil,ho,Bool.and_true]; rfl
 · rw [mV hiC]
   by_cases e : j = u.length
   · subst e
     simp at hy; subst hy
     exact ⟨pv,qF (by rw [a.len]; exact hu),hp⟩
   · have hj : j < u.length := by have := aN hy; simp at this; omega
     rw [qH hj] at hy
     obtain ⟨pv',h1,h2⟩ := a.at_ j y hy
     exact ⟨pv',by rw [qB (Ne.symm e)]; exact h1,h2⟩
theorem URow.less {C : List Nat} {H : Heap} {iu P : Nat} {u : List aC} {x : aC} {rows : List (List AV)} (a : URow C H iu P (u ++ [x]) rows) : URow C H iu P u rows :=
 ⟨a.hb,a.len,a.two,a.one,fun j y hy => a.at_ j y (by rw [qH (aN hy)]; exact hy)⟩
theorem URow.back {C D : List Nat} {H H' : Heap} {iu P : Nat} {u u' : List aC} {rows rows' : List (List AV)} (a : URow C H iu P u rows) (a' : URow D H' iu P u' rows') (e : ∀ j,j < u.length → rows'[j]? = rows[j]?) (t : aB (msk C H) (msk C H')) : URow C H' iu P u rows' :=
 ⟨a'.hb,a'.len,a'.two,a'.one,fun j x hx => by
  obtain ⟨pv,h1,h2⟩ := a.at_ j x hx
  exact ⟨pv,by rw [e j (aN hx)]; exact h1,h2.sub t⟩⟩
theorem aAe.st {H : Heap} {N : Nat} {s : aD} {v : StV} {C : List Nat} (a : aAe w0 H N s v) (hC : ∀ i ∈ C,i < N) : StS w0 (msk C H) s v := by
 have key : ∀ {y : AV} {l : List Int},iZ w0 H N y l → SlO w0 (msk C H) y l := fun {y l} o => by
  have hout : ∀ i,N ≤ i → (msk C H)[i]? = H[i]? := fun i hi => bE fun hc => by have := hC i hc; omega
  by_cases hl : l = []
  · rcases o.z hl with rfl | ⟨io,f,c,h1,rfl,h2⟩
    · subst hl; exact ⟨.inl ⟨rfl,rfl⟩,fun _ => rfl⟩
    · subst hl
      have h3 : (msk C H)[io]? = some (some (.row c)) := by rw [hout io h1]; exact h2
      exact ⟨.inr ⟨.own io 0,f,⟨1,rfl,rfl⟩,aN h3,fun j c hc => by simp at hc⟩,fun _ => by simp [srcOf,eQ,rdn,h3]⟩
  · obtain ⟨io,h1,h2,h3,h4⟩ := o.b hl
    have h5 : (msk C H)[io]? = some (some (.row (aS l))) := by rw [hout io h1]; exact h4
    have := SlN.own (f := false) h5 hl
    rw [h3]
    exact ⟨this.s,fun e => absurd e hl⟩
 exact ⟨key a.p,key a.l,key a.e⟩
theorem UnV.sub {H : Heap} {v : AV} {u : List aC} (a : UnV w0 h v u) (t : aB h H) : UnV w0 H v u := NS.mono a t fun _ _ ⟨pv,e,r⟩ => ⟨pv,e,Sl.sub r t⟩
def FlgtO (w0 : World) (h : Heap) (x : aC) (c : List AV) : Prop := ∃ pv,c = [.int .i64 x.to,pv] ∧ SlO w0 h pv x.people
structure UnP (w0 : World) (h : Heap) (v : AV) (u : List aC) : Prop where
 n : NS w0 h 2 (FlgtO w0 h) v u
 e : u = [] → srcOf w0 h 2 v = some (0,[])
 nn : v ≠ .nilS
theorem UnP.v {v : AV} {u : List aC} (a : UnP w0 h v u) : UnV w0 h v u := NS.mono a.n aB.refl fun _ _ ⟨pv,e,r⟩ => ⟨pv,e,r.s⟩
theorem xK {H : Heap} {v : AV} {es : Nat} {r : Nat × List AV} (e : srcOf w0 h es v = some r) (t : aB h H) : srcOf w0 H es v = some r := by
 cases v <;> simp only [srcOf] at e ⊢
 all_goals first
  | exact e
  | (split at e
     · rename_i h1
       rw [if_pos h1]
       simp only [qD] at e ⊢
       obtain ⟨x,h2,h3⟩ := e
       exact ⟨x,t.rdn h2,h3⟩
     · cases e)
  | cases e
theorem UnP.sub {H : Heap} {v : AV} {u : List aC} (a : UnP w0 h v u) (t : aB h H) : UnP w0 H v u := ⟨NS.mono a.n t fun _ _ ⟨pv,e,r⟩ => ⟨pv,e,r.sub t⟩,fun e => xK (a.e e) t,a.nn⟩
theorem SlN.o {v : AV} {l : List Int} (a : SlN h v l) : SlO w0 h v l := ⟨a.s,fun e => by
 rcases a with ⟨_,rfl⟩ | ⟨h1,_⟩
 · rfl
 · exact absurd e h1⟩
theorem URow.unv {C : List Nat} {H : Heap} {iu : Nat} {u : List aC} {rows : List (List AV)} (a : URow (iu :: C) H iu u.length u rows) (hi : iu ∉ C) {f : Bool} : UnP w0 (msk C H) (.sl (.own iu 0) u.length 2 f) u := by
 refine ⟨⟨rows,a.len,?_,fun j x c hx hc => ?_⟩,fun e => ?_,by simp⟩
 · have : (msk C H)[iu]? = some (some (.row rows.flatten)) := by rw [bE hi]; exact a.hb
   have := eP (w0 := w0) (H := msk C H) (full := f) (io := iu) (rows := rows) (es := 2) this a.two
   rwa [a.len] at this
 · obtain ⟨pv,h1,h2⟩ := a.at_ j x hx
   rw [h1] at hc
   cases hc
   exact ⟨pv,rfl,(h2.sub (jH (ms := C) fun i hi => List.mem_cons_of_mem _ hi)).o⟩
 · have : (msk C H)[iu]? = some (some (.row rows.flatten)) := by rw [bE hi]; exact a.hb
   subst e
   simp [srcOf,eQ,rdn,this]
def UnYV (w0 : World) (C : List Nat) (x : List aC × aD) (H : Heap) (args : List AV) : Prop := ∃ uv nv,args = [uv,.agg (stC nv)] ∧ UnP w0 (msk C H) uv x.1 ∧ StS w0 (msk C H) x.2 nv
structure PlB where
 bu : Nat
 bd : Nat
 bs : Nat
 bo : Nat
 by_ : Nat
 bm : Nat
def PlB.args (b : PlB) : List AV := [.ptr (.own b.bu 0),.ptr (.own b.bd 0),.ptr (.own b.bs 0),.ptr (.own b.bo 0),.ptr (.own b.by_ 0),.ptr (.own b.bm 0)]
structure PlI (w0 : World) (C : List Nat) (d : aO) (v : bO) (m : AV) (i : Nat) (s : aD) (sv : StV) (op : Int) (q iu : Nat) (b : PlB) (H : Heap) : Prop where
 b1 : (msk C H)[b.bu]? = some (some (.row [.sl (.own iu 0) d.planes.length 2 true]))
 b2 : (msk C H)[b.bd]? = some (some (.row [.ptr (.own i 0)]))
 b3 : (msk C H)[b.bs]? = some (some (.row (stC sv)))
 b4 : (msk C H)[b.bo]? = some (some (.row [.int .i64 op]))
 b5 : (msk C H)[b.by_]? = some (some (.row [.yld q]))
 b6 : (msk C H)[b.bm]? = some (some (.row [.fn (.func 124) [] b.args]))
 hD : pG w0 (msk C H) d v m i
 hs : StS w0 (msk C H) s sv
theorem PlI.sub {C C' : List Nat} {d : aO} {v : bO} {m : AV} {i : Nat} {s : aD} {sv : StV} {op : Int} {q iu : Nat} {b : PlB} {H H' : Heap} (a : PlI w0 C d v m i s sv op q iu b H) (hs : aB (msk C H) (msk C' H')) : PlI w0 C' d v m i s sv op q iu b H' :=
 ⟨hs.2 _ _ a.b1,hs.2 _ _ a.b2,hs.2 _ _ a.b3,hs.2 _ _ a.b4,hs.2 _ _ a.b5,hs.2 _ _ a.b6,a.hD.sub hs,a.hs.sub hs⟩
theorem unit_c (C : List Nat) (d : aO) (v : bO) (m : AV) (i : Nat) (s : aD) (sv : StV) (op : Int) (q iu : Nat) (b : PlB) (K : Heap → Prop) (sk : jN d s) (ps : ∀ p ∈ d.planes,0 ≤ p.seats ∧ p.seats ≤ 1000) (hp0 : 0 < d.places.length) (o1 : 0 ≤ op) (o2 : op < 2 ^ 50) (hiC : iu ∉ C) :
 ∀ (k gone : Nat) (u : List aC) (r : List (List aC × aD)) (rows : List (List AV)) (O : List Nat) (h : Heap),(∀ i ∈ iu :: C,i < h.length) → (∀ i ∈ O,i < h.length) → (iu ∈ O) → u.length + k = d.planes.length → gone < 2 ^ 4 → (∀ x ∈ u,tK d x) → PlI w0 (iu :: C) d v m i s sv op q iu b h → URow (iu :: C) h iu d.planes.length u rows →
  fS Try.prog w0 q C (UnYV w0 C) (fun _ => True) K (eX d s op k gone u ++ r) O h →
  ACall Try.prog w0 124 ([.int .i64 (u.length : Int),.int .i64 (gone : Int)] ++ b.args) h fun y H => Keep (iu :: C) h H ∧ (∃ O',(∀ i ∈ O',i ∈ O ∨ h.length ≤ i) ∧ (∀ i ∈ O',i < H.length) ∧ (∀ i ∈ O,i ∈ O') ∧ IterR Try.prog w0 q C (UnYV w0 C) (fun _ => True) K r y O' H) ∧ ∃ rows',URow (iu :: C) H iu d.planes.length u rows' ∧ ∀ j,j < u.length → rows'[j]? = rows[j]? := by
 intro k
 induction k with
 | zero =>
  intro gone u r rows O h hCl hOl hiO huk hg hu hP hR hI
  have hul : u.length = d.planes.length := by omega
  refine aY aM aAL aC2 aC1 (qE rfl) fun hb ha => aU ?_
  have un1 := bS (ms := iu :: C) (A := h)
  have c1 : ∀ L,(h ++ L)[b.bu]? = some (some (.row [.sl (.own iu 0) d.planes.length 2 true])) := fun L => aA (un1.2 _ _ hP.b1)
  have c2 : ∀ L,(h ++ L)[b.bd]? = some (some (.row [.ptr (.own i 0)])) := fun L => aA (un1.2 _ _ hP.b2)
  have c3 : ∀ L,(h ++ L)[b.bs]? = some (some (.row (stC sv))) := fun L => aA (un1.2 _ _ hP.b3)
  have c4 : ∀ L,(h ++ L)[b.bo]? = some (some (.row [.int .i64 op])) := fun L => aA (un1.2 _ _ hP.b4)
  have c5 : ∀ L,(h ++ L)[b.by_]? = some (some (.row [.yld q])) := fun L => aA (un1.2 _ _ hP.b5)
  rw [hul]
  simp only [go_sem,mf124,PlB.args,c1,c2,c3,c4,beq_self_eq_true]
  obtain ⟨G,eG⟩ : ∃ G,G = h ++ [some (Blk.row [.int .i64 (d.planes.length : Int)]),some (Blk.row [.bool false])] := ⟨_,rfl⟩
  rw [← eG]
  have hG : aB h G := by rw [eG]; exact aB.refl.app
  have gl : G.length = h.length + 2 := by rw [eG]; simp
  have gr : G[h.length + 1]? = some (some (.row [.bool false])) := by rw [eG]; simp
  have huv : UnP w0 (msk C h) (.sl (.own iu 0) d.planes.length 2 true) u := by
   rw [← hul] at hR ⊢
   exact hR.unv hiC
  have hu4 := fun x hx => (hu x hx)
  have dl := hP.hD.dl
  have uk : aCx d u := ⟨hul,fun x hx => (hu x hx).hi,fun x hx => (hu x hx).pp,fun x hx => by have := (hu x hx).pl; omega⟩
  have hmC : aB (msk C h) G := bS.trans hG
  refine aR (ACall.vc (first := []) (args := [_,_,_,_]) (fly_c d v m i s sv op u _ ((hP.hD.sub un1).sub hG) ((hP.hs.sub un1).sub hG) sk (huv.sub hmC).v uk o1 o2).toA) ?_
  rintro y H1 ⟨sH,nv,rfl,st,alt⟩
  have p1 := Sl.one st.planes.s
  have p2 := Sl.one st.legs.s
  have p3 := Sl.one st.people.s
  have hH : aB h H1 := hG.trans sH
  have hHl := sH.1
  have d1 : ∀ L,(H1 ++ L)[b.bu]? = some (some (.row [.sl (.own iu 0) d.planes.length 2 true])) := fun L => aA (hH.2 _ _ (un1.2 _ _ hP.b1))
  have d5 : ∀ L,(H1 ++ L)[b.by_]? = some (some (.row [.yld q])) := fun L => aA (hH.2 _ _ (un1.2 _ _ hP.b5))
  have dr : ∀ L,(H1 ++ L)[h.length + 1]? = some (some (.row [.bool false])) := fun L => aA (sH.2 _ _ gr)
  have hset : ∀ X L,(H1 ++ L).set (h.length + 1) X = H1.set (h.length + 1) X ++ L := fun X L => jD (by omega)
  have hget : ∀ X L,(H1.set (h.length + 1) X ++ L)[h.length + 1]? = some X := fun X L => by rw [qH (by rw [List.length_set]; omega),qF (by omega)]
  have hiu := hCl iu (by simp)
  by_cases er : (fC d s op u).2.1 = 1
  · rw [eX,if_pos er] at hI
    simp only [go_sem,p1.1,p2.1,p3.1,er,bne_self_eq_false,d1,d5]
    obtain ⟨HX,eHX⟩ : ∃ HX,HX = H1 ++ [some (Blk.row [nv.pl,nv.le,nv.pe]),some (Blk.row [.int .i64 1,.int .i64 (fC d s op u).2.2])] := ⟨_,rfl⟩
    rw [← eHX]
    have hHX : aB H1 HX := by rw [eHX]; exact aB.refl.app
    have hhX : aB h HX := hH.trans hHX
    have hstv : StS w0 (msk C HX) (fC d s op u).1 nv := by
     rcases alt with ⟨e1,e2⟩ | o
     · rw [e1,e2]
       exact hP.hs.sub ((aB.toK (C := C) hhX).mskm (fun i hi => .inl (List.mem_cons_of_mem _ hi)) (fun i hi => .inl (List.mem_cons_of_mem _ hi)))
     · exact (o.st (C := C) fun i hi => by have := hCl i (List.mem_cons_of_mem _ hi); omega).sub ((aB.toK (C := C) hHX).msk fun i hi => .inl hi)
    refine aR (fS.call hI hhX.toK ((h.length + 1) :: O) trivial (fun i hi => by rcases List.mem_cons.1 hi with rfl | hi; exact .inr (by omega); exact .inl hi) (fun i hi => by
     have h1 := hhX.1
     have h2 := hHX.1
     rcases List.mem_cons.1 hi with rfl | hi
     · omega
     · have := hOl i hi; omega) ⟨_,nv,rfl,huv.sub ((aB.toK (C := C) hhX).msk fun i hi => .inl hi),hstv⟩) ?_
    rintro y H3 ⟨k3,r3⟩
    have hrC : h.length + 1 ∉ C := fun hc => by have := hCl _ (List.mem_cons_of_mem _ hc); omega
    have hrX : HX[h.length + 1]? = some (some (.row [.bool false])) := hHX.2 _ _ (sH.2 _ _ gr)
    have hr3 : H3[h.length + 1]? = some (some (.row [.bool false])) := k3.at_ _ _ hrC hrX
    have hl3 := aN hr3
    have hget3 : ∀ X,(H3.set (h.length + 1) X)[h.length + 1]? = some X := fun X => qF hl3
    obtain ⟨yb,rfl⟩ : ∃ yb,y = .bool yb := by rcases r3 with ⟨e,_⟩ | ⟨e,_⟩ <;> exact ⟨_,e⟩
    simp only [go_sem,hr3,hget3]
    have kC : Keep C h (H3.set (h.length + 1) (some (.row [.bool yb]))) := ((aB.toK hhX).trans k3).set (.inr (by omega))
    refine ⟨kC.more fun i hi => List.mem_cons_of_mem _ hi,⟨(h.length + 1) :: O,fun i hi => by rcases List.mem_cons.1 hi with rfl | hi; exact .inr (by omega); exact .inl hi,fun i hi => ?_,fun i hi => List.mem_cons_of_mem _ hi,r3.keep (Keep.refl.set (.inl (by simp)))⟩,rows,hR.keep kC hiC (fun i hi => .inl (List.mem_cons_of_mem _ hi)),fun _ _ => rfl⟩
    have h1 := kC.le
    rw [List.length_set] at h1
    rcases List.mem_cons.1 hi with rfl | hi
    · exact hl3
    · have := hOl i hi; omega
  · rw [eX,if_neg er] at hI
    have er' : ((fC d s op u).2.1 != 1) = true := by simp [er]
    simp only [go_sem,p1.1,p2.1,p3.1,er',d1,d5,dr,hset,hget]
    obtain ⟨HX,eHX⟩ : ∃ HX,HX = H1.set (h.length + 1) (some (Blk.row [.bool true])) ++ [some (Blk.row [nv.pl,nv.le,nv.pe]),some (Blk.row [.int .i64 (fC d s op u).2.1,.int .i64 (fC d s op u).2.2])] := ⟨_,rfl⟩
    rw [← eHX]
    have hhX : aB h HX := by rw [eHX]; exact (hH.setR (by omega)).app
    have hXl : HX.length = H1.length + 2 := by rw [eHX]; simp
    refine ⟨hhX.toK,⟨O,fun i hi => .inl hi,fun i hi => ?_,fun i hi => hi,.inl ⟨rfl,hI.keep hhX.toK⟩⟩,rows,hR.keep (D := C) hhX.toK hiC (fun i hi => .inl (List.mem_cons_of_mem _ hi)),fun _ _ => rfl⟩
    have h1 := hhX.1
    have := hOl i hi
    omega
 | succ k ih =>
  intro gone u r rows O h hCl hOl hiO huk hg hu hP hR hI
  have hul : u.length < d.planes.length := by omega
  refine aY aM aAL aC2 aC1 (qE rfl) fun hb ha => aU ?_
  have un1 := bS (ms := iu :: C) (A := h)
  have c1 : ∀ L,(h ++ L)[b.bu]? = some (some (.row [.sl (.own iu 0) d.planes.length 2 true])) := fun L => aA (un1.2 _ _ hP.b1)
  have c2 : ∀ L,(h ++ L)[b.bd]? = some (some (.row [.ptr (.own i 0)])) := fun L => aA (un1.2 _ _ hP.b2)
  have c3 : ∀ L,(h ++ L)[b.bs]? = some (some (.row (stC sv))) := fun L => aA (un1.2 _ _ hP.b3)
  have c4 : ∀ L,(h ++ L)[b.bo]? = some (some (.row [.int .i64 op])) := fun L => aA (un1.2 _ _ hP.b4)
  have dpl := hP.hD.pl
  have p1 := Sl.one (hP.hs.planes.s)
  have p2 := Sl.one (hP.hs.legs.s)
  have p3 := Sl.one (hP.hs.people.s)
  have e0 : ((u.length : Int) == (d.planes.length : Int)) = false := by simp; omega
  simp only [go_sem,mf124,PlB.args,c1,c2,c3,c4,e0]
  refine aF (aCf i sv op u.length gone p1 p2 p3).v ?_
  simp only [go_sem]
  refine zD [2,7,8,10,41] ?_
  simp only [go_sem]
  refine aBW (fid := 146) (first := []) rfl (.inl rfl) fun hca hcb hps => ?_
  simp only [go_sem]
  obtain ⟨fb,efb⟩ : ∃ fb : FtB,fb = ⟨h.length + 2,h.length + 3,h.length + 4,h.length + 5,h.length + 6⟩ := ⟨_,rfl⟩
  rw [← efb]
  obtain ⟨rec_,erec⟩ : ∃ rec_ : LoopState → Option Code → Blk,rec_ = fun st pd => Blk.loop 54 [(2,AV.ptr (Pl.own b.bu 0)),(7,AV.ptr (Pl.own b.bm 0)),(8,AV.ptr (Pl.own h.length 0)),(10,AV.ptr (Pl.own (h.length + 1) 0)),(41,AV.fn (Fn.func 146) [] fb.args)] #[42,43] (eM (jY 124) [1,1,0,1,0,0]) (eM (jY 124) [1,1,0,1,0,1]) st pd := ⟨_,rfl⟩
  obtain ⟨G,eG⟩ : ∃ G,G = h ++ [some (Blk.row [AV.int IntKind.i64 (u.length : Int)]),some (Blk.row [AV.bool false]),some (Blk.row [AV.ptr (Pl.own i 0)]),some (Blk.row [sv.pl,sv.le,sv.pe]),some (Blk.row [AV.int IntKind.i64 op]),some (Blk.row [AV.int IntKind.i64 (u.length : Int)]),some (Blk.row [AV.int IntKind.i64 (gone : Int)]),some (rec_ .ready none)] := ⟨_,rfl⟩
  have eG' := eG
  simp only [erec] at eG'
  rw [← eG']
  have hhG : aB h G := by rw [eG]; exact aB.refl.app
  have gl : G.length = h.length + 8 := by rw [eG]; simp
  have g0 : G[h.length]? = some (some (.row [.int .i64 (u.length : Int)])) := by rw [eG]; simp
  have g1 : G[h.length + 1]? = some (some (.row [.bool false])) := by rw [eG]; simp
  have g7 : G[h.length + 7]? = some (some (rec_ .ready none)) := by rw [eG]; simp
  have hiu := hCl iu (by simp)
  have hCh : ∀ c ∈ C,c < h.length := fun c hc => hCl c (List.mem_cons_of_mem _ hc)
  obtain ⟨C',eC'⟩ : ∃ C',C' = (h.length + 7) :: (h.length + 1) :: iu :: C := ⟨_,rfl⟩
  have hC' : ∀ c ∈ C',c = h.length + 7 ∨ c = h.length + 1 ∨ c = iu ∨ c ∈ C := fun c hc => by rw [eC'] at hc; simpa using hc
  have hC'h : ∀ c ∈ C',c ∈ iu :: C ∨ h.length ≤ c := fun c hc => by rcases hC' c hc with rfl | rfl | rfl | h1; exact .inr (by omega); exact .inr (by omega); exact .inl (by simp); exact .inl (List.mem_cons_of_mem _ h1)
  have hC'n : ∀ c,h.length + 2 ≤ c → c ≠ h.length + 7 → c ∉ C' := fun c h1 h2 hc => by rcases hC' c hc with h3 | h3 | h3 | h3; omega; omega; omega; have := hCh c h3; omega
  have hsC : aB (msk (iu :: C) h) (msk C' G) := (aB.toK (C := []) hhG).mskm (fun i hi => by cases hi) hC'h
  have hF : FtI w0 C' d v m i s sv op u.length gone fb G := by
   rw [efb]
   refine ⟨?_,?_,?_,?_,?_,hP.hD.sub hsC,hP.hs.sub hsC⟩
   · simp only; rw [bE (hC'n _ (by omega) (by omega)),eG]; simp
   · simp only; rw [bE (hC'n _ (by omega) (by omega)),eG]; simp [stC]
   · simp only; rw [bE (hC'n _ (by omega) (by omega)),eG]; simp
   · simp only; rw [bE (hC'n _ (by omega) (by omega)),eG]; simp
   · simp only; rw [bE (hC'n _ (by omega) (by omega)),eG]; simp
  rw [eX,show d.planes.length - (k + 1) = u.length by omega] at hI
  have hfl := tY (s := s) (op := op) (plane := u.length) (gone := gone) hP.hD.dl hp0 hg
  refine aEB C' d v m i s sv (h.length + 7) op u.length gone fb _ sk hul ps o1 o2 (fun c hc => by rcases hC' c hc with rfl | rfl | rfl | h1; omega; omega; omega; have := hCh c h1; omega) hg hF ?_
  generalize gX d s op u.length gone = fl at hI hfl
  obtain ⟨KF, eKF⟩ : ∃ KF : Heap → Prop, KF = fun h' => rgE Try.prog w0 none 54 h.length (resK w0 [RV.c 10 none] fun y H => Keep (iu :: C) h H ∧ (∃ O', (∀ i ∈ O', i ∈ O ∨ h.length ≤ i) ∧ (∀ i ∈ O', i < H.length) ∧ (∀ i ∈ O, i ∈ O') ∧ IterR Try.prog w0 q C (UnYV w0 C) (fun _ => True) K r y O' H) ∧ ∃ rows', URow (iu :: C) H iu d.planes.length u rows' ∧ ∀ j, j < u.length → rows'[j]? = rows[j]?)
        [It.inBlk 0,It.code ((SC.reg [MIx.op none none (MOp.store (Opd.t 10) (Opd.k (AV.bool true)) 1)]).seq SC.ret)]
        [(2,AV.ptr (Pl.own b.bu 0)),(7,AV.ptr (Pl.own b.bm 0)),(8,AV.ptr (Pl.own h.length 0)),(10,AV.ptr (Pl.own (h.length + 1) 0)),(41,AV.fn (Fn.func 146) [] fb.args)] h'[h.length + 7]? (h'.set (h.length + 7) none) := ⟨_,rfl⟩
  rw [← eKF]
  have hsub' : ∀ c ∈ iu :: C,c ∈ C' := fun c hc => by rw [eC']; exact List.mem_cons_of_mem _ (List.mem_cons_of_mem _ hc)
  have hiC' : iu ∈ C' := hsub' iu (by simp)
  have h7C : h.length + 7 ∈ C' := by rw [eC']; simp
  have h1C : h.length + 1 ∈ C' := by rw [eC']; simp
  have claim : ∀ (l : List (aC × Nat)) (O1 : List Nat) (H : Heap),(∀ x ∈ l,tK d x.1 ∧ x.2 < 2 ^ 4) → (∀ i ∈ O1,i ∈ O ∨ h.length ≤ i) → (∀ i ∈ O1,i < H.length) → (∀ i ∈ O,i ∈ O1) → h.length + 1 ∈ O1 → h.length + 7 ∈ O1 → Keep C' G H →
   H[h.length + 7]? = some (some (rec_ .ready none)) → H[h.length + 1]? = some (some (.row [.bool false])) → (∃ rows1,URow C' H iu d.planes.length u rows1 ∧ ∀ j,j < u.length → rows1[j]? = rows[j]?) →
   fS Try.prog w0 q C (UnYV w0 C) (fun _ => True) K (l.flatMap (fun x => eX d s op k x.2 (u ++ [x.1])) ++ r) O1 H →
   fS Try.prog w0 (h.length + 7) C' (aCC w0 C') (· = []) KF l [] H := by
   intro l
   induction l with
   | nil =>
    intro O1 H _ hO1 hOH hu1 hb1 hb7 kG h7 h1 ⟨rows1,hR1,er1⟩ it
    intro H2 t2
    have k7 : H2[h.length + 7]? = some (some (rec_ .ready none)) := t2.at_ _ _ (by simp) h7
    have k1 : (H2.set (h.length + 7) none)[h.length + 1]? = some (some (.row [.bool false])) := by rw [qB (by omega)]; exact t2.at_ _ _ (by simp) h1
    have hl1 := aN k1
    have k1' : ∀ X,((H2.set (h.length + 7) none).set (h.length + 1) X)[h.length + 1]? = some X := fun X => qF hl1
    have hl2 : h.length + 7 < H2.length := aN k7
    simp only [eKF,k7,erec]
    simp only [go_sem,k1,k1']
    have kA : Keep O1 H ((H2.set (h.length + 7) none).set (h.length + 1) (some (.row [.bool true]))) := ((t2.more (D := O1) (by simp)).set (.inl hb7)).set (.inl hb1)
    have kB : Keep (iu :: C) h ((H2.set (h.length + 7) none).set (h.length + 1) (some (.row [.bool true]))) :=
     ((((aB.toK (C := C') hhG).trans kG).trans (t2.more (by simp))).old hC'h).set (.inr (by omega)) |>.set (.inr (by omega))
    have hR2 : URow C' H2 iu d.planes.length u rows1 := hR1.keep (D := []) t2 (by simp) (by simp)
    refine ⟨kB,⟨O1,hO1,fun i hi => by have := kA.le; have := hOH i hi; rw [List.length_set,List.length_set] at *; omega,hu1,.inl ⟨rfl,by simpa using it.keep kA⟩⟩,rows1,?_,er1⟩
    refine hR2.remask (by rw [qB (by omega),qB (by omega)]) ?_
    have := jH (ms := iu :: C) (ns := C') (A := (H2.set (h.length + 7) none).set (h.length + 1) (some (.row [.bool true]))) hsub'
    rwa [mV h1C,mV h7C] at this
   | cons x l ihl =>
    intro O1 H hl hO1 hOH hu1 hb1 hb7 kG h7 h1 ⟨rows1,hR1,er1⟩ it
    intro H2 args O2 hg0 t2 h2o h2l ⟨pv,ea,hpv⟩
    subst hg0; subst ea
    have k7 : H2[h.length + 7]? = some (some (rec_ .ready none)) := t2.at_ _ _ (by simp) h7
    have k7' := k7
    simp only [erec] at k7
    refine tM (psl := [42,43]) aM rfl aE7 aE6 R124_0a.eq_1 R124_0b.eq_1 k7 rfl hps hca hcb fun hb2 ha2 => ?_
    rw [← List.append_nil H2]
    have hpo := Sl.one (hpv.s (w0 := w0))
    obtain ⟨A,eA⟩ : ∃ A,A = H2 ++ [some (Blk.row [.int .i64 x.1.to,pv])] := ⟨_,rfl⟩
    have hHA : aB H2 A := by rw [eA]; exact aB.refl.app
    have a7 : A[h.length + 7]? = some (some (rec_ .ready none)) := hHA.2 _ _ k7'
    have a7' := a7
    simp only [erec] at a7'
    simp only [go_sem,hpo.1,← eA,a7']
    obtain ⟨B0,eB0⟩ : ∃ B0,B0 = A.set (h.length + 7) (some (rec_ .busy none)) := ⟨_,rfl⟩
    have eB0' := eB0
    simp only [erec] at eB0'
    rw [← eB0']
    have l7 := aN a7
    have kHB : Keep [h.length + 7] H B0 := by rw [eB0]; exact ((t2.more (by simp)).trans hHA.toK).set (.inl (by simp))
    have khB : Keep C' h B0 := ((aB.toK hhG).trans kG).trans (kHB.more (by simp [h7C]))
    have hPB := hP.sub ((khB.old hC'h).msk (ms := iu :: C) fun i hi => .inl hi)
    have un2 := bS (ms := iu :: C) (A := B0)
    have e1 : B0[b.bu]? = some (some (.row [.sl (.own iu 0) d.planes.length 2 true])) := un2.2 _ _ hPB.b1
    have e6 : ∀ X,(B0.set iu (some X))[b.bm]? = some (some (.row [.fn (.func 124) [] b.args])) := fun X => by
     have hne : iu ≠ b.bm := fun e => by have := hPB.b6; rw [← e,vS (by simp) (by have := khB.le; omega)] at this; cases this
     rw [qB hne]; exact un2.2 _ _ hPB.b6
    have h0C : h.length ∉ C' := fun hc => by rcases hC' _ hc with h3 | h3 | h3 | h3; omega; omega; omega; have := hCh _ h3; omega
    have e8 : B0[h.length]? = some (some (.row [.int .i64 (u.length : Int)])) := (kHB.more (D := C') (by simp [h7C])).at_ _ _ h0C (kG.at_ _ _ h0C g0)
    have e8' : ∀ X,(B0.set iu (some X))[h.length]? = some (some (.row [.int .i64 (u.length : Int)])) := fun X => by rw [qB (by omega)]; exact e8
    have e13 : B0[H2.length]? = some (some (.row [.int .i64 x.1.to,pv])) := by
     have : h.length + 7 ≠ H2.length := by have := aN k7'; omega
     rw [eB0,qB this,eA]; simp
    have hRB : URow C' B0 iu d.planes.length u rows1 := by
     refine hR1.remask ?_ (kHB.msk fun i hi => .inl (by simp at hi; subst hi; exact h7C))
     have := hR1.hb
     rw [this]; exact kHB.at_ _ _ (by simp; omega) this
    have eiu := hRB.hb
    have eix : bT 2 (.sl (.own iu 0) d.planes.length 2 true) (some u.length) = some (.ptr (.own iu (u.length * 2))) := by simp [bT,eQ,Pl.add,hul]
    have fl2 : rows1.flatten.length = d.planes.length * 2 := by rw [aA0 hR1.two,hR1.len]
    have hfs := aHa hR1.two (j := u.length) (by rw [hR1.len]; exact hul) (a := .int .i64 x.1.to) (b := pv)
    simp only [go_sem,e1,e8,e13,eix,eiu,hpo.1,fl2,hfs,e6,e8']
    obtain ⟨B,eB⟩ : ∃ B,B = B0.set iu (some (Blk.row (rows1.set u.length [AV.int IntKind.i64 x.1.to,pv]).flatten)) := ⟨_,rfl⟩
    rw [← eB]
    have hpB : SlN (msk C' B0) pv x.1.people := hpv.sub ((show Keep [h.length + 7] H2 B0 by rw [eB0]; exact hHA.toK.set (.inl (by simp))).msk fun i hi => .inl (by simp at hi; subst hi; exact h7C))
    have hRx := hRB.put hiC' hul hpB hpo.1
    rw [← eB] at hRx
    have kB0B : Keep [iu] B0 B := by rw [eB]; exact Keep.refl.set (.inl (by simp))
    have hPx := hPB.sub (kB0B.msk (ms := iu :: C) fun i hi => .inl (by simp at hi; simp [hi]))
    have kHBx : Keep O1 H B := (kHB.more (by simp [hb7])).trans (kB0B.more (by simp [hu1 _ hiO]))
    have itB := it.keep kHBx
    rw [List.flatMap_cons,List.append_assoc] at itB
    have hBl := kHBx.le
    have hxok := hl x (by simp)
    have hcall := ih x.2 (u ++ [x.1]) (l.flatMap (fun x => eX d s op k x.2 (u ++ [x.1])) ++ r) _ O1 B (fun c hc => by have := hCl c hc; have := khB.le; have := kB0B.le; omega) (fun c hc => by have := hOH c hc; omega) (hu1 _ hiO) (by simp; omega) hxok.2
     (fun y hy => by rcases List.mem_append.1 hy with hy | hy; exact hu y hy; simp at hy; subst hy; exact hxok.1) hPx (hRx.remask rfl (jH hsub')) itB
    rw [List.length_append,List.length_singleton,Int.natCast_add,Int.natCast_one] at hcall
    refine ⟨by omega,(by unfold I64; omega),?_⟩
    refine aR (ACall.vc (first := []) (args := [_,_]) (by simpa using hcall)) ?_
    rintro y H3 ⟨k3,⟨O',o1',o2',o3',r3⟩,rows3,hR3,er3⟩
    have b7 : B[h.length + 7]? = some (some (rec_ .busy none)) := kB0B.at_ _ _ (by simp; omega) (by rw [eB0,qF l7])
    have h7n : h.length + 7 ∉ iu :: C := fun hc => by have := hCl _ hc; omega
    have h1n : h.length + 1 ∉ iu :: C := fun hc => by have := hCl _ hc; omega
    have d7 : H3[h.length + 7]? = some (some (rec_ .busy none)) := k3.at_ _ _ h7n b7
    have b1 : H3[h.length + 1]? = some (some (.row [.bool false])) := k3.at_ _ _ h1n (kB0B.at_ _ _ (by simp; omega) (kHB.at_ _ _ (by simp) h1))
    have l3 := aN d7
    have kH23 : Keep C' H2 H3 := ((show Keep [h.length + 7] H2 B0 by rw [eB0]; exact hHA.toK.set (.inl (by simp))).more (by simp [h7C])).trans ((kB0B.more (by simp [hiC'])).trans (k3.more hsub'))
    have kH3 : Keep C' H H3 := (t2.more (by simp)).trans kH23
    have hRn : URow C' H3 iu d.planes.length u rows3 := hR1.back hR3 (fun j hj => by
     rw [er3 j (by omega),qB (by omega)]) (kH3.msk fun i hi => .inl hi)
    have er3' : ∀ j,j < u.length → rows3[j]? = rows[j]? := fun j hj => by
     rw [er3 j (by omega),qB (by omega),er1 j hj]
    simp only [erec] at d7
    rcases r3 with ⟨rfl,it3⟩ | ⟨rfl,kk3⟩
    · simp only [go_sem,d7]
      obtain ⟨F,eF⟩ : ∃ F,F = H3.set (h.length + 7) (some (rec_ .ready none)) := ⟨_,rfl⟩
      have eF' := eF
      simp only [erec] at eF'
      rw [← eF',List.append_nil]
      have kF : Keep [h.length + 7] H3 F := by rw [eF]; exact Keep.refl.set (.inl (by simp))
      have h7O : h.length + 7 ∈ O' := o3' _ hb7
      refine ⟨kH23.trans (kF.more (by simp [h7C])),.inl ?_⟩
      refine ihl O' F (fun y hy => hl y (List.mem_cons_of_mem _ hy)) (fun c hc => by
       rcases o1' c hc with h2 | h2
       · exact hO1 c h2
       · have := khB.le; have := kB0B.le; exact .inr (by omega)) (fun c hc => by rw [eF,List.length_set]; exact o2' c hc) (fun c hc => o3' c (hu1 c hc)) (o3' _ hb1) h7O (kG.trans (kH3.trans (kF.more (by simp [h7C])))) ?_ ?_ ⟨rows3,?_,er3'⟩ (it3.keep (kF.more (by simp [h7O])))
      · rw [eF,qF l3]
      · exact kF.at_ _ _ (by simp) b1
      · exact hRn.remask (by rw [eF,qB (by omega)]) (kF.msk fun i hi => .inl (by simp at hi; subst hi; exact h7C))
    · have d7' : (H3.set (h.length + 1) (some (.row [.bool false])))[h.length + 7]? = some (some (rec_ .busy none)) := by rw [qB (by omega)]; simp only [erec]; exact d7
      simp only [erec] at d7'
      simp only [go_sem,d7',b1]
      obtain ⟨F,eF⟩ : ∃ F,F = (H3.set (h.length + 1) (some (.row [.bool false]))).set (h.length + 7) (some (rec_ .done (some .ret))) := ⟨_,rfl⟩
      have eF' := eF
      simp only [erec] at eF'
      rw [← eF',List.append_nil]
      have kF : Keep [h.length + 1,h.length + 7] H3 F := by rw [eF]; exact (Keep.refl.set (.inl (by simp))).set (.inl (by simp))
      refine ⟨kH23.trans (kF.more (by simp [h7C,h1C])),.inr fun H4 k4 => ?_⟩
      have f7 : F[h.length + 7]? = some (some (rec_ .done (some .ret))) := by rw [eF,qF (by rw [List.length_set]; exact l3)]
      have f1 : F[h.length + 1]? = some (some (.row [.bool false])) := by rw [eF,qB (by omega),qF (by omega)]
      have j7 := k4.at_ _ _ (by simp) f7
      have j1 : (H4.set (h.length + 7) none)[h.length + 1]? = some (some (.row [.bool false])) := by rw [qB (by omega)]; exact k4.at_ _ _ (by simp) f1
      simp only [eKF,j7,erec]
      simp only [go_sem,j1]
      have k34 : Keep [h.length + 1,h.length + 7] H3 (H4.set (h.length + 7) none) := (kF.trans (k4.more (by simp))).set (.inl (by simp))
      have k0 : Keep C' h (H4.set (h.length + 7) none) := (((aB.toK hhG).trans kG).trans kH3).trans (k34.more (by simp [h7C,h1C]))
      have kO : Keep O' H3 (H4.set (h.length + 7) none) := k34.more (by simp [o3' _ hb7,o3' _ hb1])
      refine ⟨k0.old hC'h,⟨O',fun c hc => ?_,fun c hc => ?_,fun c hc => o3' c (hu1 c hc),.inr ⟨rfl,fun H5 k5 => kk3 _ (kO.trans k5)⟩⟩,rows3,?_,er3'⟩
      · rcases o1' c hc with h2 | h2
        · exact hO1 c h2
        · have := khB.le; have := kB0B.le; exact .inr (by omega)
      · have h2 := o2' c hc
        have h3 := k34.le
        rw [List.length_set] at h3
        omega
      · have hRf : URow C' (H4.set (h.length + 7) none) iu d.planes.length u rows3 := hRn.keep k34 (by simp; omega) fun i hi => .inl (by simp at hi; rcases hi with rfl | rfl; exact h1C; exact h7C)
        exact hRf.remask rfl (jH hsub')
  exact claim fl ((h.length + 7) :: (h.length + 1) :: O) G hfl (fun i hi => by rcases List.mem_cons.1 hi with rfl | hi; exact .inr (by omega); rcases List.mem_cons.1 hi with rfl | hi; exact .inr (by omega); exact .inl hi)
   (fun i hi => by rcases List.mem_cons.1 hi with rfl | hi; omega; rcases List.mem_cons.1 hi with rfl | hi; omega; have := hOl i hi; omega) (fun i hi => by simp [hi]) (by simp) (by simp) Keep.refl g7 g1 ⟨rows,hR.remask (by rw [eG,qH hiu]) hsC,fun _ _ => rfl⟩
   (hI.grow hhG.toK fun i hi => by rcases List.mem_cons.1 hi with rfl | hi; exact .inr (by omega); rcases List.mem_cons.1 hi with rfl | hi; exact .inr (by omega); exact .inl hi)
theorem xU (c : List AV) : ∀ n,fL c n = (List.replicate n c).flatten
 | 0 => rfl
 | n + 1 => by rw [aB0,xU c n,List.replicate_succ,List.flatten_cons]
theorem aCH (C : List Nat) (d : aO) (v : bO) (m : AV) (i : Nat) (s : aD) (sv : StV) (op : Int) (q bd bs bo : Nat) (K : Heap → Prop) (sk : jN d s) (ps : ∀ p ∈ d.planes,0 ≤ p.seats ∧ p.seats ≤ 1000) (hp0 : 0 < d.places.length) (o1 : 0 ≤ op) (o2 : op < 2 ^ 50)
 (hCl : ∀ i ∈ C,i < h.length) (b1 : (msk C h)[bd]? = some (some (.row [.ptr (.own i 0)]))) (b2 : (msk C h)[bs]? = some (some (.row (stC sv)))) (b3 : (msk C h)[bo]? = some (some (.row [.int .i64 op]))) (hD : pG w0 (msk C h) d v m i) (hs : StS w0 (msk C h) s sv)
 (hI : fS Try.prog w0 q C (UnYV w0 C) (fun _ => True) K (cK d s op) [] h) : ACall Try.prog w0 123 [.yld q,.ptr (.own bd 0),.ptr (.own bs 0),.ptr (.own bo 0)] h fun _ H => K H := by
 refine aY aM aGn aJ6 aJ5 (qE rfl) fun hb ha => aU ?_
 have un1 := bS (ms := C) (A := h)
 have c1 : ∀ L,(h ++ L)[bd]? = some (some (.row [.ptr (.own i 0)])) := fun L => aA (un1.2 _ _ b1)
 have ci : ∀ L,(h ++ L)[i]? = some (some (.row (aX v ++ [m]))) := fun L => aA (un1.2 _ _ hD.hd)
 have lnp : fN v.pn = some (.int .i64 d.planes.length) := by simpa using hD.R.planes.use.1
 have dpl := hD.pl
 have hP40 : d.planes.length * (32 + 1) ≤ 2 ^ 40 := by omega
 simp only [go_sem,mf123,c1,ci,lnp]
 refine ⟨by omega,?_⟩
 obtain ⟨b,eb⟩ : ∃ b : PlB,b = ⟨h.length + 2,bd,bs,bo,h.length,h.length + 3⟩ := ⟨_,rfl⟩
 have eargs : [AV.ptr (Pl.own (h.length + 2) 0),AV.ptr (Pl.own bd 0),AV.ptr (Pl.own bs 0),AV.ptr (Pl.own bo 0),AV.ptr (Pl.own h.length 0),AV.ptr (Pl.own (h.length + 3) 0)] = b.args := by rw [eb]; rfl
 rw [eargs,beq_self_eq_true,xU]
 obtain ⟨H,eH⟩ : ∃ H,H = h ++ [some (Blk.row [.yld q]),some (Blk.row (List.replicate d.planes.length [AV.int .i64 0,.nilS]).flatten),some (Blk.row [.sl (.own (h.length + 1) 0) d.planes.length 2 true]),some (Blk.row [.fn (.func 124) [] b.args])] := ⟨_,rfl⟩
 rw [← eH]
 have hhH : aB h H := by rw [eH]; exact aB.refl.app
 have hl : H.length = h.length + 4 := by rw [eH]; simp
 have hnC : ∀ c,h.length ≤ c → c ≠ h.length + 1 → c ∉ (h.length + 1) :: C := fun c h1 h2 hc => by
  rcases List.mem_cons.1 hc with h3 | h3
  · exact h2 h3
  · have := hCl _ h3; omega
 have hsC : aB (msk C h) (msk ((h.length + 1) :: C) H) := (aB.toK (C := []) hhH).mskm (by simp) fun c hc => by
  rcases List.mem_cons.1 hc with h3 | h3
  · exact .inr (by omega)
  · exact .inl h3
 have hP : PlI w0 ((h.length + 1) :: C) d v m i s sv op q (h.length + 1) b H := by
  have hb' : ∀ x,b.args = x → b.args = x := fun _ e => e
  rw [eb]
  refine ⟨?_,hsC.2 _ _ b1,hsC.2 _ _ b2,hsC.2 _ _ b3,?_,?_,hD.sub hsC,hs.sub hsC⟩
  · simp only; rw [bE (hnC _ (by omega) (by omega)),eH]; simp
  · simp only; rw [bE (hnC _ (by omega) (by omega)),eH]; simp
  · simp only; rw [bE (hnC _ (by omega) (by omega)),eH,← eb]; simp
 have hR : URow ((h.length + 1) :: C) H (h.length + 1) d.planes.length [] (List.replicate d.planes.length [AV.int .i64 0,.nilS]) :=
  ⟨by rw [eH]; simp,by simp,fun c hc => by rw [(List.mem_replicate.1 hc).2]; rfl,fun c hc => by rw [(List.mem_replicate.1 hc).2]; rfl,fun j x hx => by simp at hx⟩
 have hc := unit_c C d v m i s sv op q (h.length + 1) b K sk ps hp0 o1 o2 (fun hc => by have := hCl _ hc; omega) d.planes.length 0 [] [] _ [h.length + 1] H (fun c hc => by rcases List.mem_cons.1 hc with h3 | h3; omega; have := hCl _ h3; omega) (by simp; omega) (by simp) (by simp) (by omega) (by simp) hP hR
  (by rw [List.append_nil]; exact hI.grow hhH.toK (by simp))
 refine aR (ACall.vc (first := []) (args := [_,_]) (by simpa using hc)) ?_
 rintro y H3 ⟨k3,⟨O',_,_,_,r3⟩,_⟩
 simp only [go_sem]
 rcases r3 with ⟨_,r3⟩ | ⟨_,r3⟩
 · exact r3 _ Keep.refl
 · exact r3 _ Keep.refl
theorem aAn (i : Nat) (sv : StV) (op : Int) (o1 : one sv.pl = true ∧ cellsOf sv.pl = some [sv.pl]) (o2 : one sv.le = true ∧ cellsOf sv.le = some [sv.le]) (o3 : one sv.pe = true ∧ cellsOf sv.pe = some [sv.pe]) :
 bA Try.prog w0 80 [.ptr (.own i 0),.agg (stC sv),.int .i64 op] h
  (.fn (.func 123) [] [.ptr (.own h.length 0),.ptr (.own (h.length + 1) 0),.ptr (.own (h.length + 2) 0)])
  (h ++ [some (.row [.ptr (.own i 0)]),some (.row (stC sv)),some (.row [.int .i64 op])]) := by
 refine pB aM aIU mf80_b mf80_g (qE rfl) (by simp [AV.bdd,AV.bdds,Pl.bdd]) (fun hb => ?_) fun hb ha => aU ?_
 · simp only [AV.bdds,AV.bdd,Pl.bdd,stC] at hb
   obtain ⟨h1,⟨h2,h3,h4,_⟩,_⟩ := hb
   simp [bJ,bN,bZ,cJ,cY,bR,AV.bdds,AV.bdd,Pl.bdd,bI,stC]
   exact ⟨by omega,AV.bdd_mono (by omega) _ h2,AV.bdd_mono (by omega) _ h3,AV.bdd_mono (by omega) _ h4⟩
 · simp only [go_sem,mf80,o1.2,o2.2,o3.2,o1.1,o2.1,o3.1]
structure dC (d : aO) : Prop where
 p0 : 1 ≤ d.places.length
 p1 : d.places.length ≤ 5
 ln : d.links.length ≤ 20
 pn : d.planes.length ≤ 2
 pe : d.people.length ≤ 4
 w0 : 1 ≤ d.weathers.length
 w1 : d.weathers.length ≤ 6
 planes : ∀ p ∈ d.planes,(0 ≤ p.at_ ∧ p.at_ < d.places.length) ∧ (0 ≤ p.home ∧ p.home < d.places.length) ∧ (0 ≤ p.seats ∧ p.seats ≤ 20) ∧ (0 ≤ p.duty ∧ p.duty ≤ 20) ∧ (0 ≤ p.away ∧ p.away ≤ 1000000)
 people : ∀ p ∈ d.people,(0 ≤ p.at_ ∧ p.at_ < d.places.length) ∧ (0 ≤ p.to ∧ p.to < d.places.length) ∧ (1 ≤ p.seats ∧ p.seats ≤ 20) ∧ (0 ≤ p.strand ∧ p.strand ≤ 1000000) ∧ (0 ≤ p.lodged ∧ p.lodged ≤ 1000000)
 s0 : 1 ≤ aJ d
 s1 : aJ d ≤ 5
 rows : ∀ w ∈ d.weathers,w.length = aJ d ∧ ∀ x ∈ w,0 ≤ x ∧ x < 2 ^ 5
 berths : ∀ p ∈ d.places,0 ≤ p.berths ∧ p.berths ≤ 2
theorem pV {n : Nat} {x : Int} : cP n x = true ↔ 0 ≤ x ∧ x < n := by simp only [cP,inB,Bool.and_eq_true,decide_eq_true_eq]; omega
theorem gT {d : aO} (e : eE d = true) : dC d := by
 simp only [eE,Bool.and_eq_true,decide_eq_true_eq,List.all_eq_true] at e
 obtain ⟨e1,e2,e3,e4,e5,e6,e7,_,e9,e10⟩ := e
 simp only [inB,Bool.and_eq_true,decide_eq_true_eq] at e1 e5
 have hw : ∀ w ∈ d.weathers,(1 ≤ w.length ∧ w.length ≤ 5) ∧ w.length = aJ d ∧ ∀ x ∈ w,0 ≤ x ∧ x < 2 ^ 5 := fun w hw => by
  have := e9 w hw
  simp only [eV,inB,uI,Bool.and_eq_true,decide_eq_true_eq,List.all_eq_true] at this
  refine ⟨by omega,this.2.1,fun x hx => ?_⟩
  have h1 := this.2.2 x hx
  have h2 : 2 ^ d.places.length ≤ 2 ^ 5 := Nat.pow_le_pow_right (by omega) (by omega)
  have h3 : ((2 ^ 5 : Nat) : Int) = 2 ^ 5 := by norm_cast
  omega
 have hs : 1 ≤ aJ d ∧ aJ d ≤ 5 := by
  cases ew : d.weathers with
  | nil => rw [ew] at e5; simp at e5
  | cons a b =>
   have := hw a (by rw [ew]; simp)
   have ha : aJ d = a.length := by simp [aJ,ew]
   omega
 refine ⟨by omega,by omega,e2,e3,e4,by omega,by omega,fun p hp => ?_,fun p hp => ?_,hs.1,hs.2,fun w hw' => (hw w hw').2,fun p hp => ?_⟩
 · have := e6 p hp
   simp only [eZ,Bool.and_eq_true,pV,inB,decide_eq_true_eq] at this
   omega
 · have := e7 p hp
   simp only [dT,Bool.and_eq_true,pV,inB,decide_eq_true_eq] at this
   omega
 · obtain ⟨j,hj,rfl⟩ := List.mem_iff_getElem.1 hp
   have := e10 j (List.mem_range.2 hj)
   rw [aI hj] at this
   simp only [nD,inB,Bool.and_eq_true,decide_eq_true_eq] at this
   omega
def GrI (H : Heap) (N : Nat) (v : AV) (l : List Int) : Prop := (l = [] ∧ v = .nilS) ∨ (l ≠ [] ∧ ∃ id,N ≤ id ∧ v = .sl (.own id 0) l.length 1 false ∧ H[id]? = some (some (.row (aS l))))
theorem GrI.n {H : Heap} {N : Nat} {v : AV} {l : List Int} (a : GrI H N v l) : SlN H v l := by
 rcases a with a | ⟨a,id,_,e1,e2⟩
 · exact .inl a
 · exact .inr ⟨a,id,false,e1,e2⟩
theorem GrI.keep {C : List Nat} {H H' : Heap} {N : Nat} {v : AV} {l : List Int} (a : GrI H N v l) (t : Keep C H H') (hC : ∀ c ∈ C,c < N) : GrI H' N v l := by
 rcases a with a | ⟨a,id,e0,e1,e2⟩
 · exact .inl a
 · exact .inr ⟨a,id,e0,e1,t.at_ _ _ (fun hc => by have := hC _ hc; omega) e2⟩
theorem GrI.add {H : Heap} {N : Nat} {v : AV} {l : List Int} (a : GrI H N v l) (hN : N ≤ H.length) (x : Int) (k : Nat) (hk : H[k]? = some (some (.row [.int .i64 x]))) (hl : l.length < 1000000) :
 ∃ v' H',(∀ f,dH w0 H 1 8 v (.sl (.own k 0) 1 1 f) = some (v',H')) ∧ GrI H' N v' (l ++ [x]) ∧ H.length ≤ H'.length ∧ (∀ (i : Nat) b,i < N → H[i]? = some b → H'[i]? = some b) ∧ one v' = true := by
 have hr : rdn w0 H (.own k 0) (1 * 1) = some [.int .i64 x] := by simp [rdn,hk]
 rcases a with ⟨rfl,rfl⟩ | ⟨hl0,id,hid,rfl,h2⟩
 · refine ⟨.sl (.own H.length 0) 1 1 false,H ++ [some (.row [.int .i64 x])],fun f => by simp [dH,srcOf,eQ,hr,lA,one],.inr ⟨by simp,H.length,hN,by simp,by simp [aS]⟩,by simp,fun i b hi e => by rw [qH (by omega)]; exact e,rfl⟩
 · have hr2 : rdn w0 H (.own id 0) (l.length * 1) = some (aS l) := by
    simp only [rdn,h2]
    rw [if_pos (by simp)]
    simp [List.take_of_length_le]
   rw [Nat.mul_one] at hr2
   have hil := aN h2
   have hb : (l.length + 1) * (8 + 1) ≤ 2 ^ 40 := by omega
   refine ⟨.sl (.own H.length 0) (l.length + 1) 1 false,H.set id none ++ [some (.row (aS (l ++ [x])))],fun f => ?_,.inr ⟨by simp,H.length,hN,by simp,by simp⟩,by simp,fun i b hi e => by rw [qH (by rw [List.length_set]; omega),qB (by omega)]; exact e,rfl⟩
   simp [dH,srcOf,eQ,hr,one,hr2]
   refine ⟨by omega,?_⟩
   simp [aS]
theorem aCv {a b : Nat} (ha : a < 2 ^ 62) (hb : b < 2 ^ 62) : bin .andNot (.int .i64 (a : Int)) (.int .i64 (b : Int)) = some (.int .i64 ((a ^^^ (a &&& b) : Nat) : Int)) := by
 have h1 : a ^^^ (a &&& b) < 2 ^ 62 := Nat.xor_lt_two_pow ha (Nat.lt_of_le_of_lt Nat.and_le_left ha)
 simp only [bin,if_true,jV,mL]
 have e : (BitVec.ofInt IntKind.i64.bits (a : Int) &&& ~~~BitVec.ofInt IntKind.i64.bits (b : Int)) = BitVec.ofInt IntKind.i64.bits (a : Int) ^^^ (BitVec.ofInt IntKind.i64.bits (a : Int) &&& BitVec.ofInt IntKind.i64.bits (b : Int)) := by
  ext i
  simp only [BitVec.getElem_and,BitVec.getElem_not,BitVec.getElem_xor]
  cases (BitVec.ofInt IntKind.i64.bits (a : Int))[i] <;> cases (BitVec.ofInt IntKind.i64.bits (b : Int))[i] <;> rfl
 rw [e,show (BitVec.ofInt IntKind.i64.bits (a : Int) ^^^ (BitVec.ofInt IntKind.i64.bits (a : Int) &&& BitVec.ofInt IntKind.i64.bits (b : Int))).toNat = a ^^^ (a &&& b) by
  rw [BitVec.toNat_xor,BitVec.toNat_and,BitVec.ofInt_natCast,BitVec.ofInt_natCast,BitVec.toNat_ofNat,BitVec.toNat_ofNat,Nat.mod_eq_of_lt,Nat.mod_eq_of_lt]
  · simp [IntKind.bits]; omega
  · simp [IntKind.bits]; omega]
 rw [qU h1]
theorem tA {d : aO} {left slot w : Nat} : ∀ v,fW d left slot w v < 2 ^ v
 | 0 => by simp [fW]
 | v + 1 => by
  have ih := tA (d := d) (left := left) (slot := slot) (w := w) v
  have h2 : 2 ^ v < 2 ^ (v + 1) := Nat.pow_lt_pow_right (by omega) (by omega)
  rw [fW]
  split
  · exact Nat.or_lt_two_pow (Nat.lt_trans ih h2) h2
  · exact Nat.lt_trans ih h2
theorem mY {d : aO} {ws slot k : Nat} (hw : ws < 2 ^ k) : ∀ n,(cI d ws slot n).1 < 2 ^ k ∧ (cI d ws slot n).2.length ≤ n
 | 0 => ⟨hw,Nat.le_refl _⟩
 | n + 1 => by
  have ih := mY (d := d) (slot := slot) hw n
  rw [cI]
  split
  · exact ⟨Nat.xor_lt_two_pow ih.1 (Nat.lt_of_le_of_lt Nat.and_le_left ih.1),by simp; exact ih.2⟩
  · exact ⟨ih.1,by omega⟩
theorem vB {d : aO} {w t : Nat} (hw : w < d.weathers.length) (ht : t < d.weathers[w].length) : wAt d w t = d.weathers[w][t] := by rw [wAt,aI hw,aI ht]
theorem aAR (d : aO) (v : bO) (m : AV) (i ws slot : Nat) (hD : pG w0 h d v m i) (dg : dC d) (hs : slot < aJ d) (hws : ws < 2 ^ 50) :
 ACall Try.prog w0 78 [.ptr (.own i 0),.int .i64 (ws : Int),.int .i64 (slot : Int)] h fun y H => aB h H ∧ GrI H h.length y ((cV d ws slot).map Int.ofNat) := by
 refine aY aM aIW mf78_b mf78_g (qE rfl) fun hb ha => aU ?_
 have ci : ∀ L,(h ++ L)[i]? = some (some (.row (aX v ++ [m]))) := fun L => aA hD.hd
 have ln5 : fN v.we = some (.int .i64 d.weathers.length) := by obtain ⟨rows,h1,h2,_⟩ := hD.R.weathers; rw [← h1]; exact h2.use.1
 have w1 := dg.w1
 have sl := dg.s1
 rw [← List.append_nil h]
 simp only [go_sem,mf78,ci,ln5]
 rw [List.append_nil]
 refine cU (S := Heap × AV) (fun w st => [(0,.ptr (.own i 0)),(2,.int .i64 (slot : Int)),(7,st.2),(8,.int .i64 ((cI d ws slot w).1 : Int)),(18,.int .i64 (d.weathers.length : Int)),(19,.int .i64 (w : Int))]) (fun _ st => st.1)
  (fun w st => aB h st.1 ∧ GrI st.1 h.length st.2 ((cI d ws slot w).2.map Int.ofNat)) d.weathers.length (h,.nilS) ⟨aB.refl,.inl ⟨rfl,rfl⟩⟩ rfl rfl (fun w st hw I ih => ?_) (fun st I => ?_)
 · obtain ⟨H,ov⟩ := st
   obtain ⟨hH,hO⟩ := I
   simp only at hH hO ih ⊢
   refine aE aM aDD [0,2,7,8,18,19] L78_1.eq_1 ?_
   have hlt := mY (d := d) (slot := slot) hws w
   obtain ⟨left,eleft⟩ : ∃ left,left = (cI d ws slot w).1 := ⟨_,rfl⟩
   rw [← eleft] at hlt ⊢
   have l62 : left < 2 ^ 62 := by omega
   have e1 : (w : Int) < d.weathers.length := by omega
   have s1 := hT (a := left) (n := w) (by omega)
   have s2 := gZ (a := left / 2 ^ w) (Nat.lt_of_le_of_lt (Nat.div_le_self _ _) l62)
   have ci2 := hH.2 _ _ hD.hd
   have hz : ∀ a n : Nat,(((a / 2 ^ n % 2 : Nat) : Int) == 0) = !aV a n := fun a n => by
    unfold aV
    rcases Nat.mod_two_eq_zero_or_one (a / 2 ^ n) with e | e <;> rw [e] <;> rfl
   cases hbit : aV left w with
   | false =>
    simp only [go_sem,e1,s1,s2,hz,hbit]
    refine ⟨(by unfold I64; omega),?_⟩
    have := ih (H,ov) ⟨hH,by rw [cI]; simp only [← eleft,hbit]; simpa using hO⟩
    rw [cI] at this
    simp only [← eleft,hbit] at this
    simpa [eleft] using this
   | true =>
    simp only [go_sem,e1,s1,s2,hz,hbit,ci2,ln5]
    have hW : LI w0 H v.we d.weathers := (hD.R.weathers).sub hH
    have row : ∀ j,j < d.weathers.length → ∃ (p q : Pl) (x : AV),bT 1 v.we (some j) = some (.ptr p) ∧ rd w0 H p = some x ∧ bT 1 x (some slot) = some (.ptr q) ∧ rd w0 H q = some (.int .i64 (wAt d j slot)) := fun j hj => by
     obtain ⟨p,x,p1,p2,p3⟩ := hW.at_ hj
     obtain ⟨_,q,qi,qr⟩ := SlI.use p3
     have hl : slot < d.weathers[j].length := by rw [(dg.rows _ (qG hj)).1]; exact hs
     have h1 := p2 []
     have h2 := qr slot hl []
     rw [List.append_nil] at h1 h2
     exact ⟨p,q.add slot,x,p1,h1,qi slot hl,by rw [vB hj hl]; exact h2⟩
    obtain ⟨r1,r2,rx,r3,r4,r5,r6⟩ := row w hw
    have hgl := fun n => tA (d := d) (left := left) (slot := slot) (w := w) n
    have hg6 : ∀ n,n ≤ 6 → fW d left slot w n < 2 ^ 6 := fun n hn => Nat.lt_of_lt_of_le (hgl n) (Nat.pow_le_pow_right (by omega) hn)
    refine cU (S := Unit) (fun n _ => [(0,.ptr (.own i 0)),(2,.int .i64 (slot : Int)),(7,ov),(8,.int .i64 (left : Int)),(9,.int .i64 (w : Int)),(10,.int .i64 (fW d left slot w n : Int)),(18,.int .i64 (d.weathers.length : Int)),(19,.int .i64 (w : Int)),(32,.int .i64 (d.weathers.length : Int)),(33,.int .i64 (n : Int))]) (fun _ _ => H) (fun _ _ => True) d.weathers.length () trivial rfl rfl (fun n _ hn _ ih2 => ?_) (fun _ _ => ?_)
    · refine aE aM aDE [0,2,7,8,9,10,18,19,32,33] L78_0.eq_1 ?_
      have e2 : (n : Int) < d.weathers.length := by omega
      have s3 := hT (a := left) (n := n) (by omega)
      have s4 := gZ (a := left / 2 ^ n) (Nat.lt_of_le_of_lt (Nat.div_le_self _ _) l62)
      obtain ⟨q1,q2,qx,q3,q4,q5,q6⟩ := row n hn
      have s5 := oF (n := n) (by omega)
      have hg := hg6 n (by omega)
      have hn6 : 2 ^ n < 2 ^ 62 := Nat.pow_lt_pow_right (by omega) (by omega)
      have s6 := aHs (a := fW d left slot w n) (b := 2 ^ n) (by omega) hn6
      have ih2 := ih2 () trivial
      rw [fW] at ih2
      cases hb2 : aV left n with
      | false =>
       rw [hb2] at ih2
       simp only [go_sem,e2,s3,s4,oE,hb2,ci2]
       exact ⟨(by unfold I64; omega),by simpa using ih2⟩
      | true =>
       by_cases heq : wAt d n slot = wAt d w slot
       · have heq' : (wAt d n slot == wAt d w slot) = true := by simp [heq]
         rw [hb2] at ih2
         simp only [heq,decide_true,Bool.and_self,if_true] at ih2
         simp only [go_sem,e2,s3,s4,oE,hb2,ci2,q3,q4,q5,q6,r3,r4,r5,r6,heq',s5,s6]
         exact ⟨(by unfold I64; omega),by simpa using ih2⟩
       · have heq' : (wAt d n slot == wAt d w slot) = false := by simp [heq]
         rw [hb2] at ih2
         simp only [heq,decide_false,Bool.and_false,Bool.false_eq_true,if_false] at ih2
         simp only [go_sem,e2,s3,s4,oE,hb2,ci2,q3,q4,q5,q6,r3,r4,r5,r6,heq']
         exact ⟨(by unfold I64; omega),by simpa using ih2⟩
    · refine aE aM aDE [0,2,7,8,9,10,18,19,32,33] L78_0.eq_1 ?_
      have e2 : ¬ (d.weathers.length : Int) < d.weathers.length := by omega
      have hg := hg6 d.weathers.length (by omega)
      have s3 := aCv (a := left) (b := fW d left slot w d.weathers.length) l62 (by omega)
      obtain ⟨v',H',ap,g',gle,gk,go⟩ := (hO.keep (aB.refl.app (L := [some (.row [.int .i64 (fW d left slot w d.weathers.length : Int)])]) |>.toK (C := [])) (by simp)).add (w0 := w0) (by rw [List.length_append]; have := hH.1; omega) (fW d left slot w d.weathers.length : Int) H.length (by simp) (by simp; omega)
      simp only [go_sem,e2,s3,ap]
      refine ⟨(by unfold I64; omega),?_⟩
      have := ih (H',v') ⟨⟨by simp only; have := hH.1; simp at gle; omega,fun i b e => gk i _ (aN e) (aA (hH.2 i b e))⟩,by rw [cI]; simp only [← eleft,hbit,if_true,List.map_append]; exact g'⟩
      rw [cI] at this
      simp only [← eleft,hbit,if_true] at this
      simpa [eleft] using this
 · obtain ⟨H,ov⟩ := st
   obtain ⟨hH,hO⟩ := I
   simp only at hH hO ⊢
   refine aE aM aDD [0,2,7,8,18,19] L78_1.eq_1 ?_
   have e1 : ¬ (d.weathers.length : Int) < d.weathers.length := by omega
   simp only [go_sem,e1]
   exact ⟨hH,hO⟩
def putL (c : List Int) (o : Nat) (l : List Int) : List Int := c.take o ++ l ++ c.drop (o + l.length)
theorem aAq (c : List Int) (o : Nat) (l : List Int) : cB (aS c) o (aS l) = aS (putL c o l) := by
 simp [cB,putL,aS,List.map_take,List.map_drop]
theorem jQ {c : List Int} {o : Nat} {l : List Int} (h : o + l.length ≤ c.length) : (putL c o l).length = c.length := by
 simp [putL]; omega
theorem wK {H : Heap} {id o n : Nat} {c l : List Int} {v : AV} {f : Bool} (hid : H[id]? = some (some (.row (aS c)))) (hv : SlI w0 H v l) (hl : l.length ≤ n) (ho : o + l.length ≤ c.length) :
 wL w0 H 1 (.sl (.own id o) n 1 f) v = some (.int .i64 (l.length : Int),H.set id (some (.row (aS (putL c o l))))) := by
 have hlen : sX v = some l.length := by
  rcases hv with ⟨rfl,e⟩ | ⟨p,full,⟨es',rfl,_⟩,_,_⟩
  · have : l = [] := by simpa using e
    subst this; rfl
  · simp [sX]
 have hmin : min l.length n = l.length := by omega
 by_cases hl0 : l = []
 · subst hl0
   have : putL c o [] = c := by simp [putL]
   rw [this,qZ hid]
   simp only [wL,hlen]
   simp [sX]
 · have hne : l.length ≠ 0 := fun e => hl0 (List.eq_nil_of_length_eq_zero e)
   have hsrc : uN w0 H 1 l.length v = some (aS l) := by
    rcases hv with ⟨_,e⟩ | ⟨p,full,⟨es',rfl,he⟩,_,hr⟩
    · exact absurd (by simpa using e) hl0
    · have hall := Sl.all (w0 := w0) (H := H) (es := 1) (p := p) (rows := l.map fun z => [AV.int .i64 z]) (by simpa using hl0) hr
      rw [← dL,List.length_map] at hall
      simp only [uN,he,if_true]; exact hall
   have h1 : sX (.sl (.own id o) n 1 f) = some n := rfl
   unfold wL
   rw [h1,hlen]
   simp only [Option.bind_some]
   rw [hmin,if_neg hne,hsrc]
   simp only [Option.bind_some,lC,hid,and_self,if_true]
   rw [if_pos (by simp; omega),aAq]
def sZ (slot ws : Nat) (s : aD) : List Int := putL (putL (putL [(slot : Int),(ws : Int),0,0,0,0,0,0,0,0] 2 s.planes) 4 s.legs) 6 s.people
theorem aAO {slot ws : Nat} {s : aD} (h1 : s.planes.length ≤ 2) (h2 : s.legs.length ≤ 2) (h3 : s.people.length ≤ 4) : (sZ slot ws s).length = 10 := by
 unfold sZ
 have a1 := jQ (c := [(slot : Int),(ws : Int),0,0,0,0,0,0,0,0]) (o := 2) (l := s.planes) (by simp; omega)
 have a2 := jQ (c := putL [(slot : Int),(ws : Int),0,0,0,0,0,0,0,0] 2 s.planes) (o := 4) (l := s.legs) (by rw [a1]; simp; omega)
 have a3 := jQ (c := putL (putL [(slot : Int),(ws : Int),0,0,0,0,0,0,0,0] 2 s.planes) 4 s.legs) (o := 6) (l := s.people) (by rw [a2,a1]; simp; omega)
 rw [a3,a2,a1]; rfl
theorem node_c (i slot ws : Nat) (s : aD) (sv : StV) (hs : StS w0 h s sv) (h1 : s.planes.length ≤ 2) (h2 : s.legs.length ≤ 2) (h3 : s.people.length ≤ 4) :
 bA Try.prog w0 122 [.ptr (.own i 0),.int .i64 (slot : Int),.int .i64 (ws : Int),.agg (stC sv)] h (.agg (aS (sZ slot ws s))) h := by
 refine aQ aM aGo aJ8 aJ7 (qE rfl) (by simp [AV.bdd,AV.bdds]) fun hb ha => aU ?_
 have p1 := Sl.one hs.planes.s
 have p2 := Sl.one hs.legs.s
 have p3 := Sl.one hs.people.s
 have a1 := jQ (c := [(slot : Int),(ws : Int),0,0,0,0,0,0,0,0]) (o := 2) (l := s.planes) (by simp; omega)
 have a2 := jQ (c := putL [(slot : Int),(ws : Int),0,0,0,0,0,0,0,0] 2 s.planes) (o := 4) (l := s.legs) (by rw [a1]; simp; omega)
 have a3 := jQ (c := putL (putL [(slot : Int),(ws : Int),0,0,0,0,0,0,0,0] 2 s.planes) 4 s.legs) (o := 6) (l := s.people) (by rw [a2,a1]; simp; omega)
 have z : ∀ (c : List Int),c.length = 10 → (h ++ [some (Blk.row [sv.pl,sv.le,sv.pe]),some (Blk.row [.int .i64 0,.int .i64 0,.int .i64 0,.int .i64 0,.int .i64 0,.int .i64 0,.int .i64 0,.int .i64 0,.int .i64 0,.int .i64 0]),some (.row (aS c))])[h.length + 2]? = some (some (.row (aS c))) := fun c _ => by simp
 have q1 := fun f => wK (w0 := w0) (n := 2) (o := 2) (l := s.planes) (v := sv.pl) (f := f) (z [(slot : Int),(ws : Int),0,0,0,0,0,0,0,0] rfl) (Sl.app hs.planes.s) h1 (by simp; omega)
 have q2 := fun f => wK (w0 := w0) (n := 2) (o := 4) (l := s.legs) (v := sv.le) (f := f) (z (putL [(slot : Int),(ws : Int),0,0,0,0,0,0,0,0] 2 s.planes) a1) (Sl.app hs.legs.s) h2 (by rw [a1]; simp; omega)
 have q3 := fun f => wK (w0 := w0) (n := 4) (o := 6) (l := s.people) (v := sv.pe) (f := f) (z (putL (putL [(slot : Int),(ws : Int),0,0,0,0,0,0,0,0] 2 s.planes) 4 s.legs) (a2.trans a1)) (Sl.app hs.people.s) h3 (by rw [a2,a1]; simp; omega)
 have l1 : (aS (putL [(slot : Int),(ws : Int),0,0,0,0,0,0,0,0] 2 s.planes)).length = 10 := by rw [nU,a1]; rfl
 have l2 : (aS (putL (putL [(slot : Int),(ws : Int),0,0,0,0,0,0,0,0] 2 s.planes) 4 s.legs)).length = 10 := by rw [nU,a2,a1]; rfl
 have l3 : (aS (putL (putL (putL [(slot : Int),(ws : Int),0,0,0,0,0,0,0,0] 2 s.planes) 4 s.legs) 6 s.people)).length = 10 := by rw [nU,a3,a2,a1]; rfl
 have e0 : [AV.int .i64 (slot : Int),.int .i64 (ws : Int),.int .i64 0,.int .i64 0,.int .i64 0,.int .i64 0,.int .i64 0,.int .i64 0,.int .i64 0,.int .i64 0] = aS [(slot : Int),(ws : Int),0,0,0,0,0,0,0,0] := rfl
 simp only [go_sem,mf122,p1.1,p2.1,p3.1,p1.2,p2.2,p3.2]
 refine jT aM [0,2,3,1,4] [o_ 13 (.addr (.t 9) 2),o_ 15 (.addr (.t 7) 0),o_ 16 (l_ 15),o_ 14 (.slca 2 1 (.t 13) none none none)] [([(2,o_ 16 (l_ 15))],[o_ 17 (.copy 1 (.t 14) (.t 16))])] rfl rfl (by kernel_rfl) ?_
 rw [e0]
 have l0 : (aS [(slot : Int),(ws : Int),0,0,0,0,0,0,0,0]).length = 10 := by rw [nU]; rfl
 have t10 : List.take 10 (aS (putL (putL (putL [(slot : Int),(ws : Int),0,0,0,0,0,0,0,0] 2 s.planes) 4 s.legs) 6 s.people)) = aS (putL (putL (putL [(slot : Int),(ws : Int),0,0,0,0,0,0,0,0] 2 s.planes) 4 s.legs) 6 s.people) := List.take_of_length_le (by rw [l3]; exact Nat.le_refl _)
 simp only [go_sem,q1,q2,q3,l0,l1,l2,l3,p1.1,p2.1,p3.1,lC,t10]
 refine jT aM [0,2,3,1,4] [o_ 18 (.addr (.t 9) 4),o_ 20 (.addr (.t 7) 1),o_ 21 (l_ 20),o_ 19 (.slca 2 1 (.t 18) none none none)] [([(2,o_ 21 (l_ 20))],[o_ 22 (.copy 1 (.t 19) (.t 21))])] rfl rfl (by kernel_rfl) ?_
 simp only [go_sem,q1,q2,q3,l0,l1,l2,l3,p1.1,p2.1,p3.1,lC,t10]
 refine jT aM [0,2,3,1,4] [o_ 23 (.addr (.t 9) 6),o_ 25 (.addr (.t 7) 2),o_ 26 (l_ 25),o_ 24 (.slca 4 1 (.t 23) none none none)] [([(2,o_ 26 (l_ 25))],[o_ 27 (.copy 1 (.t 24) (.t 26))])] rfl rfl (by kernel_rfl) ?_
 simp only [go_sem,q1,q2,q3,l0,l1,l2,l3,p1.1,p2.1,p3.1,lC,t10]
 simp only [List.append_nil,l3,t10]
 simp only [go_sem,l3,t10]
 rfl
structure StN (d : aO) (t : Nat) (s : aD) : Prop where
 s1 : s.planes.length = d.planes.length
 s2 : s.legs.length = d.planes.length
 s3 : s.people.length = d.people.length
 at_ : ∀ x ∈ s.planes,0 ≤ x ∧ x < d.places.length
 lg : ∀ x ∈ s.legs,0 ≤ x ∧ x ≤ t
 pat : ∀ x ∈ s.people,0 ≤ x ∧ x < d.places.length
theorem StN.ok {d : aO} {t : Nat} {s : aD} (a : StN d t s) (ht : t < 1000) : jN d s := ⟨a.s1,a.s2,a.s3,a.at_,fun x hx => by have := a.lg x hx; omega⟩
structure StM (d : aO) (t i : Nat) (s : aD) : Prop where
 s1 : s.planes.length = d.planes.length
 s2 : s.legs.length = d.planes.length
 s3 : s.people.length = d.people.length
 at_ : ∀ x ∈ s.planes,0 ≤ x ∧ x < d.places.length
 lg : ∀ (j : Nat) x,s.legs[j]? = some x → 0 ≤ x ∧ x ≤ t + 1 ∧ (i ≤ j → x ≤ t)
 pat : ∀ x ∈ s.people,0 ≤ x ∧ x < d.places.length
theorem aAX {P : Int → Prop} {to : Int} (hto : P to) : ∀ (l : List Int) (n : List Int),(∀ x ∈ n,P x) → (l.foldl (fun (l : List Int) (n : Int) => l.set n.toNat to) n).length = n.length ∧ ∀ x ∈ l.foldl (fun (l : List Int) (n : Int) => l.set n.toNat to) n,P x
 | [],n,h => ⟨rfl,h⟩
 | a :: l,n,h => by
  have := aAX hto l (n.set a.toNat to) fun x hx => by
   rcases List.mem_or_eq_of_mem_set hx with hx | rfl
   · exact h x hx
   · exact hto
  exact ⟨by rw [List.foldl_cons,this.1,List.length_set],this.2⟩
theorem aFW {d : aO} {t i : Nat} {n : aD} {x : aC} (a : StM d t i n) (hx : tK d x) (h0 : 0 ≤ x.to) (hi : i < d.planes.length) : StM d t (i + 1) (iT n i x) := by
 have hf := aAX (P := fun y : Int => 0 ≤ y ∧ y < d.places.length) (to := x.to) ⟨h0,hx.hi⟩ x.people n.people a.pat
 refine ⟨by simp [iT,a.s1],by simp [iT,a.s2],by simp only [iT]; rw [hf.1,a.s3],fun y hy => ?_,fun j y hy => ?_,hf.2⟩
 · simp only [iT] at hy
   rcases List.mem_or_eq_of_mem_set hy with hy | rfl
   · exact a.at_ y hy
   · exact ⟨h0,hx.hi⟩
 · simp only [iT] at hy
   by_cases e : i = j
   · subst e
     rw [qF (by rw [a.s2]; exact hi)] at hy
     have hl : i < n.legs.length := by rw [a.s2]; exact hi
     rw [aI hl] at hy
     have := a.lg i _ (qA hl)
     have h3 := this.2.2 (Nat.le_refl _)
     cases hy
     omega
   · rw [qB e] at hy
     have := a.lg j y hy
     exact ⟨this.1,this.2.1,fun hj => this.2.2 (by omega)⟩
theorem zQ {d : aO} {s : aD} {op : Int} {t : Nat} : ∀ (u : List aC) (i : Nat) (n : aD) (g : List Bool) (n' : aD),i + u.length ≤ d.planes.length → (∀ x ∈ u,tK d x) → StM d t i n → lY d s op u i n g = .ok n' → StM d t (i + u.length) n'
 | [],i,n,g,n',_,_,a,e => by
  rw [lY] at e; cases e; exact a
 | x :: u,i,n,g,n',hi,hu,a,e => by
  rw [lY] at e
  have hsk : StM d t (i + 1) n := ⟨a.s1,a.s2,a.s3,a.at_,fun j y hy => ⟨(a.lg j y hy).1,(a.lg j y hy).2.1,fun hj => (a.lg j y hy).2.2 (by omega)⟩,a.pat⟩
  have hi' : i + 1 + u.length ≤ d.planes.length := by simp at hi; omega
  have hlen : i + (x :: u).length = i + 1 + u.length := by simp; omega
  rw [hlen]
  split at e
  · exact zQ u (i + 1) n g n' hi' (fun y hy => hu y (List.mem_cons_of_mem _ hy)) hsk e
  · rename_i hneg
    split at e
    · cases e
    · exact zQ u (i + 1) _ _ n' hi' (fun y hy => hu y (List.mem_cons_of_mem _ hy)) (aFW a (hu x (by simp)) (by omega) (by simp at hi; omega)) e
theorem zU {d : aO} {s : aD} {op : Int} {t : Nat} {u : List aC} (hl : u.length = d.planes.length) (hu : ∀ x ∈ u,tK d x) (a : StN d t s) : StN d (t + 1) (fC d s op u).1 := by
 have hs : StN d (t + 1) s := ⟨a.s1,a.s2,a.s3,a.at_,fun x hx => ⟨(a.lg x hx).1,by have := (a.lg x hx).2; omega⟩,a.pat⟩
 rw [fC]
 split
 · exact hs
 · rename_i n e
   have := zQ u 0 s _ n (by omega) hu ⟨a.s1,a.s2,a.s3,a.at_,fun j y hy => by have := a.lg y (List.mem_of_getElem? hy); exact ⟨this.1,by omega,fun _ => this.2⟩,a.pat⟩ e
   split
   · exact hs
   · refine ⟨this.s1,this.s2,this.s3,this.at_,fun x hx => ?_,this.pat⟩
     obtain ⟨j,hj,rfl⟩ := List.mem_iff_getElem.1 hx
     have := this.lg j _ (qA hj)
     exact ⟨this.1,by have := this.2.1; omega⟩
theorem xI {d : aO} {s : aD} {op : Int} {t : Nat} (hd : d.people.length ≤ 4) (hp : 0 < d.places.length) (a : StN d t s) : ∀ (k gone : Nat) (u : List aC),u.length + k = d.planes.length → gone < 2 ^ 4 → (∀ x ∈ u,tK d x) →
 ∀ y ∈ eX d s op k gone u,y.1.length = d.planes.length ∧ (∀ x ∈ y.1,tK d x) ∧ (fC d s op y.1).2.1 = 1 ∧ y.2 = (fC d s op y.1).1
 | 0,gone,u,hk,_,hu,y,hy => by
  rw [eX] at hy
  split at hy
  · rename_i e
    simp at hy; subst hy
    exact ⟨by simpa using hk,hu,e,rfl⟩
  · cases hy
 | k + 1,gone,u,hk,hg,hu,y,hy => by
  rw [eX] at hy
  obtain ⟨x,hx,hy⟩ := List.mem_flatMap.1 hy
  have hok := tY hd hp hg x hx
  exact xI hd hp a k x.2 (u ++ [x.1]) (by simp; omega) hok.2 (fun z hz => by
   rcases List.mem_append.1 hz with hz | hz
   · exact hu z hz
   · simp at hz; subst hz; exact hok.1) y hy
theorem kR {d : aO} {s : aD} {op : Int} {t : Nat} (dg : dC d) (a : StN d t s) : ∀ y ∈ cK d s op,y.1.length = d.planes.length ∧ (∀ x ∈ y.1,tK d x) ∧ (fC d s op y.1).2.1 = 1 ∧ y.2 = (fC d s op y.1).1 :=
 xI dg.pe (by have := dg.p0; omega) a _ _ _ (by simp) (by omega) (by simp)
theorem oM {d : aO} {s : aD} {op : Int} {t : Nat} (dg : dC d) (a : StN d t s) {y : List aC × aD} (hy : y ∈ cK d s op) : StN d (t + 1) y.2 := by
 obtain ⟨h1,h2,_,h4⟩ := kR dg a y hy
 rw [h4]; exact zU h1 h2 a
theorem tJ {g i : Nat} : aV (g / 2) i = aV g (i + 1) := by
 unfold aV; rw [Nat.div_div_eq_div_mul,Nat.pow_succ,Nat.mul_comm]
theorem jS : ∀ (n g : Nat),(∃ w,w < n ∧ aV g w = true) → aV g (gD g n) = true ∧ (∀ i,i < gD g n → aV g i = false) ∧ gD g n < n
 | 0,g,⟨w,hw,_⟩ => by omega
 | n + 1,g,⟨w,hw,hb⟩ => by
  rw [gD]
  cases h0 : aV g 0 with
  | true => exact ⟨h0,fun i hi => by simp at hi,by simp⟩
  | false =>
   simp only [Bool.false_eq_true,if_false]
   have hw0 : w ≠ 0 := fun e => by rw [e,h0] at hb; cases hb
   obtain ⟨h1,h2,h3⟩ := jS n (g / 2) ⟨w - 1,by omega,by rw [tJ,show w - 1 + 1 = w by omega]; exact hb⟩
   refine ⟨by rw [← tJ]; exact h1,fun i hi => ?_,by omega⟩
   cases i with
   | zero => exact h0
   | succ i => rw [← tJ]; exact h2 i (by omega)
theorem dM {g i : Nat} : aV g i = g.testBit i := by
 unfold aV
 rw [Nat.testBit_eq_decide_div_mod_eq]
theorem qK {d : aO} {left slot w : Nat} : ∀ n i,aV (fW d left slot w n) i = (decide (i < n) && (aV left i && decide (wAt d i slot = wAt d w slot)))
 | 0,i => by simp [fW,dM]
 | n + 1,i => by
  have ih := qK (d := d) (left := left) (slot := slot) (w := w) n i
  rw [fW]
  have hi : i < n + 1 ↔ i < n ∨ i = n := by omega
  by_cases e : i = n
  · subst e
    split
    · rename_i h
      rw [dM,Nat.testBit_or,← dM,ih]
      simp [Nat.testBit_two_pow_self,h]
    · rename_i h
      rw [ih]
      simp [Bool.not_eq_true] at h ⊢
      exact h
  · have : decide (i < n + 1) = decide (i < n) := by rw [decide_eq_decide]; omega
    rw [this]
    split
    · rw [dM,Nat.testBit_or,← dM,ih,Nat.testBit_two_pow_of_ne (by omega),Bool.or_false]
    · exact ih
theorem nW {d : aO} {ws slot : Nat} : ∀ n,n ≤ d.weathers.length → ∀ g ∈ (cI d ws slot n).2,(∃ w,w < d.weathers.length ∧ aV g w = true) ∧ g < 2 ^ d.weathers.length
 | 0,_,g,hg => by simp [cI] at hg
 | n + 1,hn,g,hg => by
  rw [cI] at hg
  split at hg
  · rename_i hb
    rcases List.mem_append.1 hg with hg | hg
    · exact nW n (by omega) g hg
    · simp at hg
      subst hg
      refine ⟨⟨n,by omega,?_⟩,tA _⟩
      rw [qK,hb]
      simp; omega
  · exact nW n (by omega) g hg
theorem tW {d : aO} {ws slot g : Nat} (hg : g ∈ cV d ws slot) : (∃ w,w < d.weathers.length ∧ aV g w = true) ∧ g < 2 ^ d.weathers.length := nW _ (Nat.le_refl _) g hg
theorem kS {c l : List Int} {o k : Nat} (hk : k ≤ o) (ho : o ≤ c.length) : (putL c o l).take k = c.take k := by
 rw [putL,List.append_assoc,List.take_append_of_le_length (by rw [List.length_take]; omega),List.take_take]
 congr 1; omega
theorem vM {c l : List Int} {o : Nat} (ho : o ≤ c.length) : ((putL c o l).drop o).take l.length = l := by
 rw [putL,List.append_assoc,List.drop_append_of_le_length (by rw [List.length_take]; omega)]
 have : (c.take o).drop o = [] := List.drop_eq_nil_of_le (by rw [List.length_take]; omega)
 rw [this,List.nil_append,List.take_append_of_le_length (Nat.le_refl _),List.take_length]
theorem aAP {slot ws : Nat} {s : aD} (h1 : s.planes.length ≤ 2) (h2 : s.legs.length ≤ 2) (h3 : s.people.length ≤ 4) :
 (sZ slot ws s).take 2 = [(slot : Int),(ws : Int)] ∧ (((sZ slot ws s).take 4).drop 2).take s.planes.length = s.planes ∧ (((sZ slot ws s).take 6).drop 4).take s.legs.length = s.legs ∧ ((sZ slot ws s).drop 6).take s.people.length = s.people := by
 obtain ⟨c0,e0⟩ : ∃ c0,c0 = [(slot : Int),(ws : Int),0,0,0,0,0,0,0,0] := ⟨_,rfl⟩
 have a0 : c0.length = 10 := by rw [e0]; rfl
 have a1 : (putL c0 2 s.planes).length = 10 := by rw [jQ (by omega),a0]
 have a2 : (putL (putL c0 2 s.planes) 4 s.legs).length = 10 := by rw [jQ (by omega),a1]
 have ek : sZ slot ws s = putL (putL (putL c0 2 s.planes) 4 s.legs) 6 s.people := by rw [e0]; rfl
 have td : ∀ (l : List Int) (a b k : Nat),k ≤ b - a → ((l.take b).drop a).take k = (l.drop a).take k := fun l a b k hk => by
  rw [List.drop_take,List.take_take]; congr 1; omega
 refine ⟨?_,?_,?_,?_⟩
 · rw [ek,kS (by omega) (by omega),kS (by omega) (by omega),kS (by omega) (by omega),e0]; rfl
 · rw [ek,kS (by omega) (by omega),kS (by omega) (by omega),td _ 2 4 _ (by omega),vM (by omega)]
 · rw [ek,kS (by omega) (by omega),td _ 4 6 _ (by omega),vM (by omega)]
 · rw [ek,vM (by omega)]
theorem aGU {slot ws slot' ws' : Nat} {s s' : aD} (h1 : s.planes.length ≤ 2) (h2 : s.legs.length ≤ 2) (h3 : s.people.length ≤ 4) (e1 : s'.planes.length = s.planes.length) (e2 : s'.legs.length = s.legs.length) (e3 : s'.people.length = s.people.length)
 (e : sZ slot ws s = sZ slot' ws' s') : slot = slot' ∧ ws = ws' ∧ s = s' := by
 obtain ⟨a1,a2,a3,a4⟩ := aAP (slot := slot) (ws := ws) h1 h2 h3
 obtain ⟨b1,b2,b3,b4⟩ := aAP (slot := slot') (ws := ws') (s := s') (by omega) (by omega) (by omega)
 rw [e] at a1 a2 a3 a4
 rw [e1] at b2
 rw [e2] at b3
 rw [e3] at b4
 rw [a1] at b1
 rw [a2] at b2
 rw [a3] at b3
 rw [a4] at b4
 simp at b1
 refine ⟨by omega,by omega,?_⟩
 cases s; cases s'
 simp only at b2 b3 b4
 rw [b2,b3,b4]
def ten : Bool × List Bool := (true,[true,true,true,true,true,true,true,true,true,true])
theorem yP : ∀ (a b : List Int),a.length = b.length → fF (List.replicate a.length true) (aS a) (aS b) = some (a == b)
 | [],[],_ => rfl
 | x :: xs,y :: ys,e => by
  have ih := yP xs ys (by simpa using e)
  simp only [aS,List.map_cons,List.length_cons,List.replicate_succ,fF,ceq] at ih ⊢
  rw [ih]
  by_cases h : x = y
  · subst h; simp
  · have h2 : (x == y) = false := beq_eq_false_iff_ne.2 h
    have h3 : (x :: xs == y :: ys) = false := by rw [List.cons_beq_cons,h2]; rfl
    rw [h2,h3]; simp
theorem aGV {a b : List Int} (ha : a.length = 10) (hb : b.length = 10) : keq ten (.agg (aS a)) (.agg (aS b)) = some (decide (a = b)) := by
 have := yP a b (by omega)
 rw [ha] at this
 simp only [keq,ten,if_true]
 refine Eq.trans this ?_
 congr 1
 by_cases e : a = b <;> simp [e]
def gW (M : List (List Int × Int)) : List (AV × AV) := M.map fun m => (.agg (aS m.1),.int .i64 m.2)
theorem tD {K : List Int} (hK : K.length = 10) : ∀ (M : List (List Int × Int)) (i : Nat),(∀ m ∈ M,m.1.length = 10) →
 mA ten (.agg (aS K)) (gW M) i = some none ∨ ∃ (j : Nat) (c : Int),M[j]? = some (K,c) ∧ mA ten (.agg (aS K)) (gW M) i = some (some (i + j,.int .i64 c))
 | [],i,_ => .inl rfl
 | (K',c) :: M,i,hM => by
  have hK' := hM _ List.mem_cons_self
  have ih := tD hK M (i + 1) fun m hm => hM m (List.mem_cons_of_mem _ hm)
  simp only [gW,List.map_cons,mA] at ih ⊢
  rw [aGV hK hK']
  by_cases e : K = K'
  · subst e
    exact .inr ⟨0,c,rfl,by simp⟩
  · simp only [e,decide_false]
    rcases ih with h1 | ⟨j,y,h1,h2⟩
    · exact .inl h1
    · exact .inr ⟨j + 1,y,by simpa using h1,by rw [h2,Nat.add_assoc,Nat.add_comm 1 j]⟩
def oI (d : aO) (M : List (List Int × Int)) : Prop := ∀ K c,(K,c) ∈ M → K.length = 10 ∧ ∀ k slot ws s,slot + (k + 1) = aJ d → s.planes.length = d.planes.length → s.legs.length = d.planes.length → s.people.length = d.people.length → sZ slot ws s = K → dS d k slot ws s = c
structure jZ (w0 : World) (d : aO) (v : bO) (i im : Nat) (ms : List Nat) (H : Heap) : Prop where
 hD : pG w0 (msk ms H) d v (.map im) i
 n0 : im ∈ ms
 n2 : ∀ c ∈ ms,c < H.length
 memo : ∃ M,H[im]? = some (some (.map (gW M))) ∧ oI d M
theorem jZ.keep {d : aO} {v : bO} {i im : Nat} {ms C : List Nat} {H H' : Heap} (a : jZ w0 d v i im ms H) (t : Keep C H H') (hC : ∀ c ∈ C,c ∈ ms ∨ H.length ≤ c) (hm : H'[im]? = H[im]?) : jZ w0 d v i im ms H' := by
 refine ⟨a.hD.sub (t.msk hC),a.n0,fun c hc => Nat.lt_of_lt_of_le (a.n2 c hc) t.le,?_⟩
 rw [hm]; exact a.memo
theorem jZ.app {d : aO} {v : bO} {i im : Nat} {ms : List Nat} {H L : Heap} (a : jZ w0 d v i im ms H) : jZ w0 d v i im ms (H ++ L) :=
 a.keep (C := []) aB.refl.app.toK (by simp) (qH (a.n2 _ a.n0))
end Go.Proofs.Ab

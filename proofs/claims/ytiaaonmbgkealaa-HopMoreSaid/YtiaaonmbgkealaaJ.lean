/- The own layer under the proofs of this seat, part J: what calls of the program come to on an abstract heap. No condition. -/
import Derived.Test.YtiaaonmbgkealaaI
import Derived.Test.YtiaaonmbgkealaaG
set_option linter.unusedSimpArgs false
set_option linter.unusedVariables false
namespace Go.Proofs.Ab
open Go Go.Proofs
def wAt (d : aO) (w t : Nat) : Int := (d.weathers.getD w []).getD t 0
def aT (d : aO) : Nat := (d.weathers.headD []).length
def dP (d : aO) (left slot w : Nat) : Nat → Nat
 | 0 => 0
 | v + 1 => if aZ left v && decide (wAt d v slot = wAt d w slot) then dP d left slot w v ||| 2 ^ v else dP d left slot w v
def bU (d : aO) (ws slot : Nat) : Nat → Nat × List Nat
 | 0 => (ws,[])
 | w + 1 =>
  let st := bU d ws slot w
  if aZ st.1 w then (st.1 ^^^ (st.1 &&& dP d st.1 slot w d.weathers.length),st.2 ++ [dP d st.1 slot w d.weathers.length]) else st
def bW (d : aO) (ws slot : Nat) : List Nat := (bU d ws slot d.weathers.length).2
def dR (ws : Nat) : Nat → Nat
 | 0 => 0
 | n + 1 => if aZ ws 0 then 0 else dR (ws / 2) n + 1
def aBT (d : aO) (s : aB) (op : Int) (plane to : Nat) : Bool :=
 dK d (s.planes.getD plane 0) to && (aZ op.toNat (s.planes.getD plane 0).toNat && aZ op.toNat to) && decide (s.legs.getD plane 0 < (d.planes.getD plane ⟨0,0,0,0,0⟩).duty)
def yD (d : aO) (s : aB) (at_ : Int) (n : Nat) (seats : Int) (gone : Nat) : Bool :=
 decide (s.people.getD n 0 = at_) && !aZ gone n && decide ((d.people.getD n ⟨0,0,0,0,0⟩).seats ≤ seats)
def iI (d : aO) (s : aB) (at_ to : Int) : Nat → List Int → Int → Nat → List (aD × Nat)
 | 0,_,_,_ => []
 | k + 1,l,seats,gone =>
  let n := d.people.length - (k + 1)
  (if yD d s at_ n seats gone then (⟨to,l ++ [(n : Int)]⟩,gone ||| 2 ^ n) :: iI d s at_ to k (l ++ [(n : Int)]) (seats - (d.people.getD n ⟨0,0,0,0,0⟩).seats) (gone ||| 2 ^ n) else []) ++ iI d s at_ to k l seats gone
def rY (d : aO) (s : aB) (at_ to : Int) (k : Nat) (l : List Int) (seats : Int) (gone : Nat) : List (aD × Nat) := (⟨to,l⟩,gone) :: iI d s at_ to k l seats gone
def cW (d : aO) (s : aB) (op : Int) (plane gone : Nat) : Nat → List (aD × Nat)
 | 0 => []
 | k + 1 =>
  let to := d.places.length - (k + 1)
  (if aBT d s op plane to then rY d s (s.planes.getD plane 0) to d.people.length [] (d.planes.getD plane ⟨0,0,0,0,0⟩).seats gone else []) ++ cW d s op plane gone k
def cZ (d : aO) (s : aB) (op : Int) (plane gone : Nat) : List (aD × Nat) := (⟨-1,[]⟩,gone) :: cW d s op plane gone d.places.length
def cR (d : aO) (s : aB) (op : Int) : Nat → Nat → List aD → List (List aD × aB)
 | 0,_,u => if (dC d s op u).2.1 = 1 then [(u,(dC d s op u).1)] else []
 | k + 1,gone,u => (cZ d s op (d.planes.length - (k + 1)) gone).flatMap fun x => cR d s op k x.2 (u ++ [x.1])
def dA (d : aO) (s : aB) (op : Int) : List (List aD × aB) := cR d s op d.planes.length 0 []
def kW (next : aB → Int) (b : Int) (x : List aD × aB) : Int := if b < 0 || decide (next x.2 < b) then next x.2 else b
def dO (d : aO) (next : Nat → aB → Int) (slot g : Nat) (s : aB) : Int := (dA d s (wAt d (dR g d.weathers.length) slot)).foldl (kW (next g)) (-1)
def aR (d : aO) : Nat → Nat → aB → Int
 | 0,_,s => sM d s
 | k + 1,ws,s => (bW d ws (aT d - (k + 1))).foldl (fun m g => max m (dO d (aR d k) (aT d - (k + 1)) g s)) 0
def dV (d : aO) (k slot g : Nat) (s : aB) : Int := dO d (aR d k) slot g s
abbrev jC := List (List (List aD))
def nI (g : Nat) (u : List aD) (out : jC) : Nat → jC
 | 0 => out
 | w + 1 => if aZ g w then (nI g u out w).set w ((nI g u out w).getD w [] ++ [u]) else nI g u out w
def jE (d : aO) : Nat → Nat → aB → jC → jC
 | 0,_,_,out => out
 | k + 1,ws,s,out => (bW d ws (aT d - (k + 1))).foldl (fun out g =>
  match (dA d s (wAt d (dR g d.weathers.length) (aT d - (k + 1)))).find? fun x => !decide (dV d k (aT d - (k + 1)) g s < aR d k g x.2) with
  | none => out
  | some x => jE d k g x.2 (nI g x.1 out d.weathers.length)) out
def bP (d : aO) : aB := ⟨d.planes.map (·.at_),List.replicate d.planes.length 0,d.people.map (·.at_)⟩
def iM (d : aO) : jC × Int :=
 (jE d (aT d) (2 ^ d.weathers.length - 1) (bP d) (List.replicate d.weathers.length []),aR d (aT d) (2 ^ d.weathers.length - 1) (bP d))
def exD : aO := ⟨[⟨2,true⟩,⟨1,false⟩,⟨1,true⟩],[⟨0,1⟩,⟨0,2⟩],[⟨0,0,2,3,3⟩],[⟨1,0,1,10,4⟩],[[7,7,7],[7,5,7]]⟩
def exD2 : aO := { exD with weathers := [[7,7],[7,5]] }
deriving instance DecidableEq for aD
def exU : List (List aD) := [[⟨1,[]⟩],[⟨-1,[]⟩],[⟨0,[0]⟩]]
theorem aF8 : iM exD = ([exU,exU],0) := by kernel_rfl
theorem aDS : (iM exD2).2 = 10 := by kernel_rfl
end Go.Proofs.Ab
namespace Go.Proofs.Ab
open Go Go.Proofs
variable {w0 : World} {h : Heap}
attribute [local irreducible] ACall aS aV aM aP rvC rdC lp rg dr ex un rv rd'
def SlN (h : Heap) (v : AV) (l : List Int) : Prop := (l = [] ∧ v = .nilS) ∨ (l ≠ [] ∧ ∃ id f,v = .sl (.own id 0) l.length 1 f ∧ h[id]? = some (some (.row (aQ l))))
theorem SlN.sub {H : Heap} {v : AV} {l : List Int} (a : SlN h v l) (t : aC h H) : SlN H v l := by
 rcases a with a | ⟨a,id,f,e1,e2⟩
 · exact .inl a
 · exact .inr ⟨a,id,f,e1,t.2 _ _ e2⟩
theorem SlN.nil : SlN h .nilS [] := .inl ⟨rfl,rfl⟩
theorem SlN.s {v : AV} {l : List Int} (a : SlN h v l) : SlI w0 h v l := by
 rcases a with ⟨rfl,rfl⟩ | ⟨hl,id,f,rfl,hk⟩
 · exact .inl ⟨rfl,rfl⟩
 · have := iP (w0 := w0) (H := h) (full := f) (io := id) (rows := l.map fun z => [AV.int .i64 z]) (es := 1) (by rw [← fU]; exact hk) (fun c hc => by obtain ⟨x,_,rfl⟩ := List.mem_map.1 hc; rfl)
   simpa [SlI] using this
theorem SlN.own {H : Heap} {k : Nat} {l : List Int} {f : Bool} (hk : H[k]? = some (some (.row (aQ l)))) (hl : l ≠ []) : SlN H (.sl (.own k 0) l.length 1 f) l := .inr ⟨hl,k,f,rfl,hk⟩
def aEa : AV → AV
 | .sl p n es _ => .sl (p.add 0) n es true
 | v => v
theorem SlN.cap {v : AV} {l : List Int} (a : SlN h v l) {fr : Fr} {hi mx : Opd} (e1 : bZ (hi.ev fr) = some l.length) (e2 : bZ (mx.ev fr) = some l.length) : sS 1 fr v none (some hi) (some mx) = some (aEa v) := by
 rcases a with ⟨rfl,rfl⟩ | ⟨hl,id,f,rfl,hk⟩
 · simp [sS,xA,e1,e2,bdK,aEa]
 · simp [sS,xA,e1,e2,bdK,aEa,eD,eP]
theorem SlN.more {v : AV} {l : List Int} (a : SlN h v l) {L : Heap} {n : Int} {k : Nat} {f : Bool} (hk : (h ++ L)[k]? = some (some (.row [.int .i64 n]))) (hl : l.length < 1000000) :
 fM w0 (h ++ L) 1 8 (aEa v) (.sl (.own k 0) 1 1 f) = some (.sl (.own (h.length + L.length) 0) (l.length + 1) 1 false,h ++ (L ++ [some (.row (aQ (l ++ [n])))])) := by
 have hr : rdn w0 (h ++ L) (.own k 0) (1 * 1) = some [.int .i64 n] := by simp [rdn,hk]
 rcases a with ⟨rfl,rfl⟩ | ⟨hl0,id,f',rfl,hk'⟩
 · simp [fM,srcOf,eD,hr,aEa,jR,aQ,one]
 · have hr2 : rdn w0 (h ++ L) (.own id 0) (l.length * 1) = some (aQ l) := by
    have : (h ++ L)[id]? = some (some (.row (aQ l))) := aA hk'
    simp only [rdn,this]
    rw [if_pos (by simp)]
    simp [List.take_of_length_le]
   rw [Nat.mul_one] at hr2
   have hb : (l.length + 1) * (8 + 1) ≤ 2 ^ 40 := by omega
   simp [fM,srcOf,eD,hr,aEa,jR,one,Pl.add,hr2]
   refine ⟨by omega,?_⟩
   simp [aQ]
def aB2 (w0 : World) (C : List Nat) (x : aD × Nat) (H : Heap) (args : List AV) : Prop := ∃ pv,args = [.agg [.int .i64 x.1.to,pv],.int .i64 (x.2 : Int)] ∧ SlN (msk C H) pv x.1.people
structure MoB where
 by_ : Nat
 bt : Nat
 bd : Nat
 bs : Nat
 ba : Nat
 bm : Nat
def MoB.args (b : MoB) : List AV := [.ptr (.own b.by_ 0),.ptr (.own b.bt 0),.ptr (.own b.bd 0),.ptr (.own b.bs 0),.ptr (.own b.ba 0),.ptr (.own b.bm 0)]
structure MoI (w0 : World) (C : List Nat) (d : aO) (v : cJ) (m : AV) (i : Nat) (s : aB) (sv : StV) (q : Nat) (at_ to : Int) (b : MoB) (H : Heap) : Prop where
 b1 : (msk C H)[b.by_]? = some (some (.row [.yld q]))
 b2 : (msk C H)[b.bt]? = some (some (.row [.int .i64 to]))
 b3 : (msk C H)[b.bd]? = some (some (.row [.ptr (.own i 0)]))
 b4 : (msk C H)[b.bs]? = some (some (.row (stC sv)))
 b5 : (msk C H)[b.ba]? = some (some (.row [.int .i64 at_]))
 b6 : (msk C H)[b.bm]? = some (some (.row [.fn (.func 148) [] b.args]))
 hD : pC w0 (msk C H) d v m i
 hs : StS w0 (msk C H) s sv
section
variable {C : List Nat} {d : aO} {v : cJ} {m : AV} {i : Nat} {s : aB} {sv : StV} {q : Nat} {at_ to : Int} {b : MoB} {H H' : Heap}
theorem pC.sub (a : pC w0 H d v m i) (t : aC H H') : pC w0 H' d v m i := ⟨t.2 _ _ a.hd,a.R.sub t,a.dl,a.pl,a.sb⟩
theorem MoI.keep (a : MoI w0 C d v m i s sv q at_ to b H) (t : Keep C H H') : MoI w0 C d v m i s sv q at_ to b H' := by
 have hs := t.msk (ms := C) fun i hi => .inl hi
 exact ⟨hs.2 _ _ a.b1,hs.2 _ _ a.b2,hs.2 _ _ a.b3,hs.2 _ _ a.b4,hs.2 _ _ a.b5,hs.2 _ _ a.b6,a.hD.sub hs,a.hs.sub hs⟩
end
theorem Pl.bdd_add {p : Pl} {N z : Nat} (h : p.bdd N) : (p.add z).bdd N := by cases p <;> exact h
theorem nF {g n : Nat} : (((g / 2 ^ n % 2 : Nat) : Int) == 1) = aZ g n := by
 rw [Bool.eq_iff_iff,aZ,beq_iff_eq,decide_eq_true_iff]; omega
theorem aEW {g n k : Nat} (hg : g < 2 ^ k) (hn : n < k) : g ||| 2 ^ n < 2 ^ k := Nat.or_lt_two_pow hg (Nat.pow_lt_pow_right (by omega) hn)
theorem more_c (C : List Nat) (d : aO) (v : cJ) (m : AV) (i : Nat) (s : aB) (sv : StV) (q : Nat) (at_ to : Int) (b : MoB) (K : Heap → Prop) (sk : mD d s) :
 ∀ (k : Nat) (l : List Int) (lv : AV) (seats : Int) (gone : Nat) (r : List (aD × Nat)) (h : Heap),(∀ i ∈ C,i < h.length) → k ≤ d.people.length → l.length + k ≤ d.people.length → (0 ≤ seats ∧ seats ≤ 1000) → gone < 2 ^ 4 → SlN (msk C h) lv l → MoI w0 C d v m i s sv q at_ to b h →
  fF Try.prog w0 q C (aB2 w0 C) (· = []) K (rY d s at_ to k l seats gone ++ r) [] h →
  ACall Try.prog w0 148 ([lv,.int .i64 ((d.people.length - k : Nat) : Int),.int .i64 seats,.int .i64 (gone : Int)] ++ b.args) h fun y H => Keep C h H ∧ IterR Try.prog w0 q C (aB2 w0 C) (· = []) K r y [] H := by
 intro k
 induction k using Nat.strongRecOn with
 | ind k ihk =>
  intro l lv seats gone r h hCl hk hlk hse hg hl hM hI
  refine bM aK aFa aIf aIe (Nat.le_of_ble_eq_true rfl) fun hb ha => aX ?_
  have un1 := cK (ms := C) (A := h)
  have c1 : ∀ L,(h ++ L)[b.by_]? = some (some (.row [.yld q])) := fun L => aA (un1.2 _ _ hM.b1)
  have c2 : ∀ L,(h ++ L)[b.bt]? = some (some (.row [.int .i64 to])) := fun L => aA (un1.2 _ _ hM.b2)
  have hg62 : gone < 2 ^ 62 := by omega
  have dl := hM.hD.dl
  have hl1 := (hl.sub un1).s (w0 := w0)
  have ol := Sl.one hl1
  simp only [go_sem,mf148,MoB.args,c1,c2,ol.2]
  refine aW (fF.call hI aC.refl.app.toK [] rfl (fun i hi => by cases hi) (fun i hi => by cases hi) ⟨lv,rfl,hl.sub nR⟩) ?_
  rintro y H1 ⟨k1,r1⟩
  rw [List.append_nil] at k1
  rcases r1 with ⟨rfl,it⟩ | ⟨rfl,kk⟩
  rotate_left
  · simp only [go_sem]
    exact ⟨k1,.inr ⟨rfl,kk⟩⟩
  simp only [go_sem]
  refine fO (S := Nat × Heap) (F := fun t => [(0,lv),(2,.int .i64 seats),(3,.int .i64 (gone : Int)),(6,.ptr (.own b.bd 0)),(7,.ptr (.own b.bs 0)),(8,.ptr (.own b.ba 0)),(9,.ptr (.own b.bm 0)),(15,.int .i64 ((d.people.length - t.1 : Nat) : Int))])
   (H := fun t => t.2) (meas := fun t => t.1) (Inv := fun t => t.1 ≤ k ∧ Keep C h t.2 ∧ fF Try.prog w0 q C (aB2 w0 C) (· = []) K (iI d s at_ to t.1 l seats gone ++ r) [] t.2) (k,H1) ⟨Nat.le_refl _,k1,it⟩ rfl rfl ?_
  rintro ⟨k',H⟩ ⟨hk',kp,it⟩ ih
  simp only at hk' kp it ih ⊢
  have hM' := hM.keep kp
  have un2 := cK (ms := C) (A := H)
  have c3 : ∀ L,(H ++ L)[b.bd]? = some (some (.row [.ptr (.own i 0)])) := fun L => aA (un2.2 _ _ hM'.b3)
  have c4 : ∀ L,(H ++ L)[b.bs]? = some (some (.row (stC sv))) := fun L => aA (un2.2 _ _ hM'.b4)
  have c5 : ∀ L,(H ++ L)[b.ba]? = some (some (.row [.int .i64 at_])) := fun L => aA (un2.2 _ _ hM'.b5)
  have c6 : ∀ L,(H ++ L)[b.bm]? = some (some (.row [.fn (.func 148) [] b.args])) := fun L => aA (un2.2 _ _ hM'.b6)
  have ci : ∀ L,(H ++ L)[i]? = some (some (.row (bA v ++ [m]))) := fun L => aA (un2.2 _ _ hM'.hD.hd)
  have c3' := c3 []
  have c4' := c4 []
  have c5' := c5 []
  have c6' := c6 []
  have ci' := ci []
  rw [List.append_nil] at c3' c4' c5' c6' ci'
  have lnp : fA v.pe = some (.int .i64 d.people.length) := by simpa using (hM'.hD.R.people.use).1
  refine aE aK aGO [0,2,3,6,7,8,9,15] L148_0.eq_1 ?_
  cases k' with
  | zero =>
   have e1 : ¬ ((d.people.length - 0 : Nat) : Int) < d.people.length := by omega
   simp only [go_sem,c3',ci',lnp,e1]
   exact ⟨kp,.inl ⟨rfl,it⟩⟩
  | succ k' =>
   obtain ⟨n,en⟩ : ∃ n,n = d.people.length - (k' + 1) := ⟨_,rfl⟩
   have en' : ((d.people.length - k' : Nat) : Int) = (n : Int) + 1 := by omega
   have hnl : n < d.people.length := by omega
   have hns : n < s.people.length := by rw [sk.s3]; exact hnl
   rw [iI,← en] at it
   rw [← en]
   have e1 : (n : Int) < d.people.length := by omega
   obtain ⟨_,a,ai,ar⟩ := SlI.use (hM'.hs.people.s)
   obtain ⟨_,a',ai',ar'⟩ := SlI.use (hM'.hs.sub un2).people.s
   have a1 := ai' n hns
   have a2 := ar' n hns
   have a2' := a2 []
   rw [List.append_nil] at a2'
   have s1 := iT (a := gone) (n := n) (by omega)
   have s2 := iZ (a := gone / 2 ^ n) (Nat.lt_of_le_of_lt (Nat.div_le_self _ _) hg62)
   obtain ⟨_,p,pi,pr,pb⟩ := (hM'.hD.sub un2).R.people.use
   have q1 := pi n (by simpa using hnl)
   have q2 : ∀ L,rd w0 (H ++ L) ((p.add (n * 5)).add 2) = some (.int .i64 (d.people.getD n ⟨0,0,0,0,0⟩).seats) := fun L => by
    have := pr n (d.people.getD n ⟨0,0,0,0,0⟩).c (by rw [List.getElem?_map,List.getElem?_eq_getElem hnl,aH hnl]; rfl)
    exact kV (cS this (o := 2) rfl)
   have q2' := q2 []
   rw [List.append_nil] at q2'
   have sb : 0 ≤ (d.people.getD n ⟨0,0,0,0,0⟩).seats ∧ (d.people.getD n ⟨0,0,0,0,0⟩).seats ≤ 1000 := by rw [aH hnl]; exact hM.hD.sb _ (List.getElem_mem hnl)
   have egn : s.people.getD n 0 = s.people[n] := aH hns
   have skip : yD d s at_ n seats gone = false → lp Try.prog w0 none 90 h.length (resK w0 [RV.t 14] fun y H => Keep C h H ∧ IterR Try.prog w0 q C (aB2 w0 C) (· = []) K r y [] H) L148_0 [It.inBlk 0,It.code ((SC.reg [MIx.op (some 14) none (MOp.mov (Opd.k (AV.bool true)))]).seq SC.ret)]
    [(0,lv),(2,.int .i64 seats),(3,.int .i64 (gone : Int)),(6,.ptr (.own b.bd 0)),(7,.ptr (.own b.bs 0)),(8,.ptr (.own b.ba 0)),(9,.ptr (.own b.bm 0)),(15,.int .i64 ((n : Int) + 1))] H := fun em => by
    have := ih (k',H) ⟨by simp only; omega,kp,by simpa [em] using it⟩ (by simp only; omega)
    simpa only [en'] using this
   by_cases hA : s.people[n] = at_
   · cases hB : aZ gone n with
     | true =>
      simp only [go_sem,c3',c4',c5',ci',lnp,e1,a1,a2',hA,s1,s2,nF,hB,bne_self_eq_false]
      exact ⟨(by unfold I64; omega),skip (by simp [yD,hB])⟩
     | false =>
      by_cases hC : (d.people.getD n ⟨0,0,0,0,0⟩).seats ≤ seats
      · have hC' : ¬ seats < (d.people.getD n ⟨0,0,0,0,0⟩).seats := by omega
        simp only [go_sem,c3',c4',c5',ci',lnp,e1,a1,a2',hA,s1,s2,nF,hB,bne_self_eq_false,q1,q2',hC']
        have hlH := (hl.sub (kp.msk (ms := C) fun i hi => .inl hi)).sub un2
        have hcap := fun fr hi mx => hlH.cap (fr := fr) (hi := hi) (mx := mx)
        have hln : fA lv = some (.int .i64 l.length) := (SlI.use (hlH.s (w0 := w0))).1
        have hmore := fun f => hlH.more (w0 := w0) (L := [some (.row [.int .i64 (n : Int)])]) (n := (n : Int)) (k := H.length) (f := f) (by simp) (by omega)
        have s3 := nH (n := n) (by omega)
        have s4 := aGr (a := gone) (b := 2 ^ n) hg62 (Nat.pow_lt_pow_right (by omega) (show n < 62 by omega))
        have hil := aF ci'
        have hbd := aF c3'
        refine sL aK [0,1,2,3,4,5,6,7,8,9,10,11,12,13,14,15,16,17,18,19,20,21,22,23,24,25,26,27,28] [o_ 61 (l_ 9),o_ 62 (m_ 0),o_ 63 (m_ 0),o_ 64 (.len (.t 63)),o_ 65 (m_ 0),o_ 66 (.len (.t 65)),o_ 67 (.slc 1 (.t 62) none (some (.t 64)) (some (.t 66))),o_ 68 (m_ 15),o_ 69 (.bslice 1 [(.int .i64 0)] 1 [(0,1,(.t 68))]),o_ 70 (.app 1 [(.int .i64 0)] 8 (.t 67) (.t 69))] [([(0,o_ 61 (l_ 9))],[o_ 71 (m_ 15),o_ 72 (.bin .add (.t 71) (i_ 1)),o_ 73 (m_ 2),o_ 74 (l_ 6),o_ 75 (.nilck (.t 74)),o_ 76 (.addr (.t 75) 0),o_ 77 (.addr (.t 76) 3),o_ 78 (l_ 77),o_ 79 (m_ 15),o_ 80 (.idxs 5 (.t 78) (.t 79)),o_ 81 (.addr (.t 80) 2),o_ 82 (l_ 81),o_ 83 (.bin .sub (.t 73) (.t 82)),o_ 84 (m_ 3),o_ 85 (m_ 15),o_ 86 (.bin .shl (i_ 1) (.t 85)),o_ 87 (.bin .or (.t 84) (.t 86)),.call (some 88) none (.t 61) [(.t 70),(.t 72),(.t 83),(.t 87)],o_ 89 (.un .not (.t 88))])] rfl rfl (by kernel_rfl) ?_
        simp only [go_sem,c3,c4,c5,c6,ci,c3',c6',ci',hln,hcap,hmore,q1,q2,s3,s4]
        obtain ⟨H2,eH2⟩ : ∃ H2,H2 = H ++ [some (Blk.row [.int .i64 (n : Int)]),some (Blk.row (aQ (l ++ [(n : Int)])))] := ⟨_,rfl⟩
        have hs2 : aC H H2 := by rw [eH2]; exact aC.refl.app
        have hlen := kp.le
        have hmk : ∀ c ∈ C,c < H.length := fun c hc => by have := hCl c hc; omega
        have hem : yD d s at_ n seats gone = true := by simp only [yD,egn,hA,hB,hC,decide_true,Bool.not_false,Bool.and_true]
        rw [hem] at it
        have it2 := it.keep (H2 := H2) hs2.toK
        have hl2 : SlN (msk C H2) (.sl (.own (H.length + 1) 0) (l.length + 1) 1 false) (l ++ [(n : Int)]) := by
         have : (msk C H2)[H.length + 1]? = some (some (.row (aQ (l ++ [(n : Int)])))) := by
          rw [bI (fun hc => by have := hmk _ hc; omega),eH2]; simp
         have := SlN.own (f := false) this (by simp)
         simpa using this
        have hc := ihk k' (by omega) (l ++ [(n : Int)]) (.sl (.own (H.length + 1) 0) (l.length + 1) 1 false) (seats - (d.people.getD n ⟨0,0,0,0,0⟩).seats) (gone ||| 2 ^ n) (iI d s at_ to k' l seats gone ++ r) H2
         (fun c hc => by have := hmk c hc; have := hs2.1; omega) (by omega) (by simp; omega) ⟨by omega,by omega⟩ (aEW hg (by omega)) hl2 (hM'.keep hs2.toK) (by simpa [rY] using it2)
        rw [en'] at hc
        rw [← eH2]
        refine ⟨(by unfold I64; omega),(by unfold I64; omega),?_⟩
        refine aW (ACall.vc (first := []) (args := [_,_,_,_]) (by simpa using hc)) ?_
        rintro y H3 ⟨k3,r3⟩
        have kp3 : Keep C h H3 := (kp.trans hs2.toK).trans k3
        rcases r3 with ⟨rfl,it3⟩ | ⟨rfl,kk3⟩
        · simp only [go_sem]
          refine ⟨(by unfold I64; omega),?_⟩
          have := ih (k',H3) ⟨by simp only; omega,kp3,it3⟩ (by simp only; omega)
          simpa only [en'] using this
        · simp only [go_sem]
          exact ⟨kp3,.inr ⟨rfl,kk3⟩⟩
      · have hC' : seats < (d.people.getD n ⟨0,0,0,0,0⟩).seats := by omega
        simp only [go_sem,c3',c4',c5',ci',lnp,e1,a1,a2',hA,s1,s2,nF,hB,bne_self_eq_false,q1,q2',hC']
        exact ⟨(by unfold I64; omega),skip (by simp only [yD,hC,decide_false,Bool.and_false])⟩
   · have hA' : (s.people[n] != at_) = true := by simp [hA]
     simp only [go_sem,c3',c4',c5',ci',lnp,e1,a1,a2',hA']
     exact ⟨(by unfold I64; omega),skip (by simp only [yD,egn,hA,decide_false,Bool.false_and])⟩
structure FtB where
 bd : Nat
 bs : Nat
 bo : Nat
 bp : Nat
 bg : Nat
def FtB.args (b : FtB) : List AV := [.ptr (.own b.bg 0),.ptr (.own b.bs 0),.ptr (.own b.bp 0),.ptr (.own b.bd 0),.ptr (.own b.bo 0)]
structure FtI (w0 : World) (C : List Nat) (d : aO) (v : cJ) (m : AV) (i : Nat) (s : aB) (sv : StV) (op : Int) (plane gone : Nat) (b : FtB) (H : Heap) : Prop where
 b1 : (msk C H)[b.bd]? = some (some (.row [.ptr (.own i 0)]))
 b2 : (msk C H)[b.bs]? = some (some (.row (stC sv)))
 b3 : (msk C H)[b.bo]? = some (some (.row [.int .i64 op]))
 b4 : (msk C H)[b.bp]? = some (some (.row [.int .i64 (plane : Int)]))
 b5 : (msk C H)[b.bg]? = some (some (.row [.int .i64 (gone : Int)]))
 hD : pC w0 (msk C H) d v m i
 hs : StS w0 (msk C H) s sv
theorem FtI.keep {C : List Nat} {d : aO} {v : cJ} {m : AV} {i : Nat} {s : aB} {sv : StV} {op : Int} {plane gone : Nat} {b : FtB} {H H' : Heap} (a : FtI w0 C d v m i s sv op plane gone b H) (t : Keep C H H') : FtI w0 C d v m i s sv op plane gone b H' := by
 have hs := t.msk (ms := C) fun i hi => .inl hi
 exact ⟨hs.2 _ _ a.b1,hs.2 _ _ a.b2,hs.2 _ _ a.b3,hs.2 _ _ a.b4,hs.2 _ _ a.b5,a.hD.sub hs,a.hs.sub hs⟩
theorem yR {o a t : Nat} : (((((o / 2 ^ a &&& o / 2 ^ t) % 2 : Nat) : Int)) == 0) = !(aZ o a && aZ o t) := by
 rw [← aAK]
 rcases Nat.mod_two_eq_zero_or_one (o / 2 ^ a &&& o / 2 ^ t) with e | e <;> rw [e] <;> rfl
theorem aDO (C : List Nat) (d : aO) (v : cJ) (m : AV) (i : Nat) (s : aB) (sv : StV) (q : Nat) (op : Int) (plane gone : Nat) (b : FtB) (K : Heap → Prop) (sk : mD d s) (hp : plane < d.planes.length) (ps : ∀ p ∈ d.planes,0 ≤ p.seats ∧ p.seats ≤ 1000) (o1 : 0 ≤ op) (o2 : op < 2 ^ 50)
 (hCl : ∀ i ∈ C,i < h.length) (hg : gone < 2 ^ 4) (hF : FtI w0 C d v m i s sv op plane gone b h) (hI : fF Try.prog w0 q C (aB2 w0 C) (· = []) K (cZ d s op plane gone) [] h) :
 ACall Try.prog w0 146 (.yld q :: b.args) h fun _ H => K H := by
 refine bM aK aFc aIj aIi (Nat.le_of_ble_eq_true rfl) fun hb ha => aX ?_
 have un1 := cK (ms := C) (A := h)
 have c1 : ∀ L,(h ++ L)[b.bd]? = some (some (.row [.ptr (.own i 0)])) := fun L => aA (un1.2 _ _ hF.b1)
 have c2 : ∀ L,(h ++ L)[b.bs]? = some (some (.row (stC sv))) := fun L => aA (un1.2 _ _ hF.b2)
 have c3 : ∀ L,(h ++ L)[b.bo]? = some (some (.row [.int .i64 op])) := fun L => aA (un1.2 _ _ hF.b3)
 have c4 : ∀ L,(h ++ L)[b.bp]? = some (some (.row [.int .i64 (plane : Int)])) := fun L => aA (un1.2 _ _ hF.b4)
 have c5 : ∀ L,(h ++ L)[b.bg]? = some (some (.row [.int .i64 (gone : Int)])) := fun L => aA (un1.2 _ _ hF.b5)
 simp only [go_sem,mf146,FtB.args,c1,c2,c3,c4,c5]
 refine aW (fF.call hI aC.refl.app.toK [] rfl (fun i hi => by cases hi) (fun i hi => by cases hi) ⟨.nilS,rfl,SlN.nil⟩) ?_
 rintro y H1 ⟨k1,r1⟩
 have hly : (h ++ [some (Blk.row [AV.yld q])])[h.length]? = some (some (.row [.yld q])) := by simp
 have kh : Keep C h H1 := aC.refl.app.toK.trans k1
 have hyC : h.length ∉ C := fun hc => by have := hCl _ hc; omega
 have hy1 : H1[h.length]? = some (some (.row [.yld q])) := k1.at_ _ _ hyC hly
 clear hly k1 c1 c2 c3 c4 c5
 rcases r1 with ⟨rfl,it⟩ | ⟨rfl,kk⟩
 rotate_left
 · simp only [go_sem]
   exact kk _ Keep.refl
 have hF1 := hF.keep kh
 have un2 := cK (ms := C) (A := H1)
 have d2 : H1[b.bs]? = some (some (.row (stC sv))) := un2.2 _ _ hF1.b2
 have d4 : H1[b.bp]? = some (some (.row [.int .i64 (plane : Int)])) := un2.2 _ _ hF1.b4
 have d1 : ∀ L,(H1 ++ L)[b.bd]? = some (some (.row [.ptr (.own i 0)])) := fun L => aA (un2.2 _ _ hF1.b1)
 have di : ∀ L,(H1 ++ L)[i]? = some (some (.row (bA v ++ [m]))) := fun L => aA (un2.2 _ _ hF1.hD.hd)
 obtain ⟨_,a,ai,ar⟩ := SlI.use (hF1.hs.sub un2).planes.s
 have hps : plane < s.planes.length := by rw [sk.s1]; exact hp
 have hls : plane < s.legs.length := by rw [sk.s2]; exact hp
 have a1 := ai plane hps
 have a2 := ar plane hps []
 rw [List.append_nil] at a2
 have hat := sk.at_ _ (List.getElem_mem hps)
 obtain ⟨x,ex'⟩ : ∃ x : Nat,s.planes[plane] = x := ⟨s.planes[plane].toNat,by omega⟩
 have egp : s.planes.getD plane 0 = x := by rw [aH hps,ex']
 rw [ex'] at a2
 have lnp : fA v.pl = some (.int .i64 d.places.length) := by simpa using hF1.hD.R.places.use.1
 simp only [go_sem,d2,d4,a1,a2,d1,di,lnp]
 obtain ⟨H2,eH2⟩ : ∃ H2,H2 = H1 ++ [some (Blk.row [.int .i64 (x : Int)])] := ⟨_,rfl⟩
 rw [← eH2]
 have hs12 : aC H1 H2 := by rw [eH2]; exact aC.refl.app
 have hb2 : H2[H1.length]? = some (some (.row [.int .i64 (x : Int)])) := by rw [eH2]; simp
 have haC : H1.length ∉ C := fun hc => by have := hCl _ hc; have := kh.le; omega
 refine fO (S := Nat × Heap) (F := fun t => [(1,.ptr (.own b.bg 0)),(2,.ptr (.own b.bs 0)),(3,.ptr (.own b.bp 0)),(4,.ptr (.own b.bd 0)),(5,.ptr (.own b.bo 0)),(6,.ptr (.own h.length 0)),(7,.ptr (.own H1.length 0)),(25,.int .i64 (d.places.length : Int)),(26,.int .i64 ((d.places.length - t.1 : Nat) : Int))])
  (H := fun t => t.2) (meas := fun t => t.1) (Inv := fun t => t.1 ≤ d.places.length ∧ Keep C H2 t.2 ∧ fF Try.prog w0 q C (aB2 w0 C) (· = []) K (cW d s op plane gone t.1) [] t.2) (d.places.length,H2) ⟨Nat.le_refl _,Keep.refl,it.keep hs12.toK⟩ (by simp) rfl ?_
 rintro ⟨k',H⟩ ⟨hk',kp,it⟩ ih
 simp only at hk' kp it ih ⊢
 have kH : Keep C h H := (kh.trans hs12.toK).trans kp
 have hF' := hF.keep kH
 have un3 := cK (ms := C) (A := H)
 have yb : ∀ L,(H ++ L)[h.length]? = some (some (.row [.yld q])) := fun L => aA (kp.at_ _ _ hyC (hs12.2 _ _ hy1))
 have ab : ∀ L,(H ++ L)[H1.length]? = some (some (.row [.int .i64 (x : Int)])) := fun L => aA (kp.at_ _ _ haC hb2)
 refine aE aK aGP [1,2,3,4,5,6,7,25,26] L146_0.eq_1 ?_
 cases k' with
 | zero =>
  have e1 : ¬ ((d.places.length - 0 : Nat) : Int) < d.places.length := by omega
  simp only [go_sem,e1]
  exact it _ Keep.refl
 | succ k' =>
  obtain ⟨n,en⟩ : ∃ n,n = d.places.length - (k' + 1) := ⟨_,rfl⟩
  have en' : ((d.places.length - k' : Nat) : Int) = (n : Int) + 1 := by omega
  have hnl : n < d.places.length := by omega
  rw [cW,← en] at it
  rw [← en]
  have e1 : (n : Int) < d.places.length := by omega
  have f1 : ∀ L,(H ++ L)[b.bd]? = some (some (.row [.ptr (.own i 0)])) := fun L => aA (un3.2 _ _ hF'.b1)
  have f2 : ∀ L,(H ++ L)[b.bs]? = some (some (.row (stC sv))) := fun L => aA (un3.2 _ _ hF'.b2)
  have f3 : ∀ L,(H ++ L)[b.bo]? = some (some (.row [.int .i64 op])) := fun L => aA (un3.2 _ _ hF'.b3)
  have f4 : ∀ L,(H ++ L)[b.bp]? = some (some (.row [.int .i64 (plane : Int)])) := fun L => aA (un3.2 _ _ hF'.b4)
  have f5 : ∀ L,(H ++ L)[b.bg]? = some (some (.row [.int .i64 (gone : Int)])) := fun L => aA (un3.2 _ _ hF'.b5)
  have fi : ∀ L,(H ++ L)[i]? = some (some (.row (bA v ++ [m]))) := fun L => aA (un3.2 _ _ hF'.hD.hd)
  have hD' := hF'.hD.sub un3
  have pl5 := hD'.R.l1
  obtain ⟨o,eo⟩ : ∃ o : Nat,op = o := ⟨op.toNat,by omega⟩
  have o62 : o < 2 ^ 62 := by omega
  have s1 : bin .shr (.int .i64 op) (.int .i64 (n : Int)) = some (.int .i64 ((o / 2 ^ n : Nat) : Int)) := by rw [eo]; exact iT (by omega)
  have s2 : bin .shr (.int .i64 op) (.int .i64 (x : Int)) = some (.int .i64 ((o / 2 ^ x : Nat) : Int)) := by rw [eo]; exact iT (by omega)
  have dd1 : o / 2 ^ n < 2 ^ 62 := Nat.lt_of_le_of_lt (Nat.div_le_self _ _) o62
  have dd2 : o / 2 ^ x < 2 ^ 62 := Nat.lt_of_le_of_lt (Nat.div_le_self _ _) o62
  have s3 := aAL dd2 dd1
  have s4 := iZ (a := o / 2 ^ x &&& o / 2 ^ n) (Nat.lt_of_le_of_lt Nat.and_le_left dd2)
  obtain ⟨_,lq,li,lr⟩ := SlI.use (hF'.hs.sub un3).legs.s
  have l1 := li plane hls
  have l2 := lr plane hls
  obtain ⟨_,p,pi,pr,_⟩ := hD'.R.planes.use
  have p1 := pi plane (by simpa using hp)
  have p2 : ∀ L,rd w0 (H ++ L) ((p.add (plane * 5)).add 3) = some (.int .i64 (d.planes.getD plane ⟨0,0,0,0,0⟩).duty) := fun L => by
   have := pr plane (d.planes.getD plane ⟨0,0,0,0,0⟩).c (by rw [List.getElem?_map,List.getElem?_eq_getElem hp,aH hp]; rfl)
   exact kV (cS this (o := 3) rfl)
  have p3 : ∀ L,rd w0 (H ++ L) ((p.add (plane * 5)).add 2) = some (.int .i64 (d.planes.getD plane ⟨0,0,0,0,0⟩).seats) := fun L => by
   have := pr plane (d.planes.getD plane ⟨0,0,0,0,0⟩).c (by rw [List.getElem?_map,List.getElem?_eq_getElem hp,aH hp]; rfl)
   exact kV (cS this (o := 2) rfl)
  have hlk := fun L => (aAf (w0 := w0) (h := H ++ L) d v m (x : Int) (n : Int) (fi L) hD'.R.links.app hD'.R.l2).v
  have lgp : s.legs.getD plane 0 = s.legs[plane] := aH hls
  have skip : ∀ H',Keep C H2 H' → aC H H' → aBT d s op plane n = false → lp Try.prog w0 none 77 h.length (resK w0 [] fun _ H => K H) L146_0 [It.inBlk 0]
   [(1,.ptr (.own b.bg 0)),(2,.ptr (.own b.bs 0)),(3,.ptr (.own b.bp 0)),(4,.ptr (.own b.bd 0)),(5,.ptr (.own b.bo 0)),(6,.ptr (.own h.length 0)),(7,.ptr (.own H1.length 0)),(25,.int .i64 (d.places.length : Int)),(26,.int .i64 ((n : Int) + 1))] H' := fun H' kk hs em => by
   have := ih (k',H') ⟨by simp only; omega,kk,by have := it.keep (H2 := H') hs.toK; simpa [em] using this⟩ (by simp only; omega)
   simpa only [en'] using this
  have hs0 : aC H (H ++ [some (Blk.row [.int .i64 (n : Int)])]) := aC.refl.app
  have ecb : aBT d s op plane n = (dK d (x : Int) (n : Int) && (aZ o x && aZ o n) && decide (s.legs[plane] < (d.planes.getD plane ⟨0,0,0,0,0⟩).duty)) := by
   rw [aBT,egp,lgp,eo]; simp only [Int.toNat_natCast]
  cases hA : dK d (x : Int) (n : Int) with
  | false =>
   simp only [go_sem,e1,f1,ab]
   refine iJ (hlk _) ?_
   simp only [go_sem,hA]
   exact ⟨(by unfold I64; omega),skip _ (kp.trans hs0.toK) hs0 (by rw [ecb,hA]; rfl)⟩
  | true =>
   cases hB : (aZ o x && aZ o n) with
   | false =>
    simp only [go_sem,e1,f1,ab]
    refine iJ (hlk _) ?_
    simp only [go_sem,hA,f3,ab,s1,s2,s3,s4,yR,hB]
    exact ⟨(by unfold I64; omega),skip _ (kp.trans hs0.toK) hs0 (by rw [ecb,hB]; simp)⟩
   | true =>
    by_cases hC : s.legs[plane] < (d.planes.getD plane ⟨0,0,0,0,0⟩).duty
    · have hC' : ¬ (d.planes.getD plane ⟨0,0,0,0,0⟩).duty ≤ s.legs[plane] := by omega
      simp only [go_sem,e1,f1,ab]
      refine iJ (hlk _) ?_
      simp only [go_sem,hA,f1,f2,f3,f4,fi,ab,s1,s2,s3,s4,yR,hB,l1,l2,p1,p2,hC']
      refine aGb aK aDi.eq_1 (by kernel_rfl) ?_
      simp only [go_sem,f1,f2,f3,f4,f5,fi,ab,p1,p3]
      obtain ⟨mb,emb⟩ : ∃ mb : MoB,mb = ⟨h.length,H.length,b.bd,b.bs,H1.length,H.length + 1⟩ := ⟨_,rfl⟩
      have eargs : mb.args = [AV.ptr (Pl.own h.length 0),AV.ptr (Pl.own H.length 0),AV.ptr (Pl.own b.bd 0),AV.ptr (Pl.own b.bs 0),AV.ptr (Pl.own H1.length 0),AV.ptr (Pl.own (H.length + 1) 0)] := by rw [emb]; rfl
      rw [← eargs]
      obtain ⟨HX,eHX⟩ : ∃ HX,HX = H ++ [some (Blk.row [.int .i64 (n : Int)]),some (Blk.row [.fn (.func 148) [] mb.args])] := ⟨_,rfl⟩
      rw [← eHX]
      have hsX : aC H HX := by rw [eHX]; exact aC.refl.app
      have kX : Keep C h HX := kH.trans hsX.toK
      have hFX := hF.keep kX
      have hCH : ∀ c,h.length ≤ c → c ∉ C := fun c hc hcc => by have := hCl _ hcc; omega
      have hle := kH.le
      have hM : MoI w0 C d v m i s sv q (x : Int) (n : Int) mb HX := by
       rw [emb] at eHX ⊢
       refine ⟨?_,?_,hFX.b1,hFX.b2,?_,?_,hFX.hD,hFX.hs⟩
       · simp only; rw [bI (hCH _ (Nat.le_refl _)),eHX]; exact yb _
       · simp only; rw [bI (hCH _ hle),eHX]; simp
       · simp only; rw [bI haC,eHX]; exact ab _
       · simp only; rw [bI (hCH _ (by omega)),eHX]; simp
      have em : aBT d s op plane n = true := by rw [ecb,hA,hB]; simp only [hC,decide_true,Bool.and_true]
      rw [em,egp] at it
      have it2 := it.keep (H2 := HX) hsX.toK
      have hgs : 0 ≤ (d.planes.getD plane ⟨0,0,0,0,0⟩).seats ∧ (d.planes.getD plane ⟨0,0,0,0,0⟩).seats ≤ 1000 := by rw [aH hp]; exact ps _ (List.getElem_mem hp)
      have hc := more_c C d v m i s sv q (x : Int) (n : Int) mb K sk d.people.length [] .nilS (d.planes.getD plane ⟨0,0,0,0,0⟩).seats gone (cW d s op plane gone k') HX (fun c hc => by have := hCl c hc; have := kX.le; omega) (Nat.le_refl _) (by simp) hgs hg SlN.nil hM (by simpa using it2)
      rw [Nat.sub_self] at hc
      refine aW (ACall.vc (first := []) (args := [_,_,_,_]) (by simpa using hc)) ?_
      rintro y H3 ⟨k3,r3⟩
      have kp3 : Keep C H2 H3 := (kp.trans hsX.toK).trans k3
      rcases r3 with ⟨rfl,it3⟩ | ⟨rfl,kk3⟩
      · simp only [go_sem]
        refine ⟨(by unfold I64; omega),?_⟩
        have := ih (k',H3) ⟨by simp only; omega,kp3,it3⟩ (by simp only; omega)
        simpa only [en'] using this
      · simp only [go_sem]
        exact kk3 _ Keep.refl
    · have hC' : (d.planes.getD plane ⟨0,0,0,0,0⟩).duty ≤ s.legs[plane] := by omega
      simp only [go_sem,e1,f1,ab]
      refine iJ (hlk _) ?_
      simp only [go_sem,hA,f1,f2,f3,f4,fi,ab,s1,s2,s3,s4,yR,hB,l1,l2,p1,p2,hC']
      exact ⟨(by unfold I64; omega),skip _ (kp.trans hs0.toK) hs0 (by rw [ecb]; simp only [hC,decide_false,Bool.and_false])⟩
theorem aBH (i : Nat) (sv : StV) (op : Int) (plane gone : Nat) (o1 : one sv.pl = true ∧ cellsOf sv.pl = some [sv.pl]) (o2 : one sv.le = true ∧ cellsOf sv.le = some [sv.le]) (o3 : one sv.pe = true ∧ cellsOf sv.pe = some [sv.pe]) :
 aM Try.prog w0 125 [.ptr (.own i 0),.agg (stC sv),.int .i64 op,.int .i64 (plane : Int),.int .i64 (gone : Int)] h
  (.fn (.func 146) [] (FtB.args ⟨h.length,h.length + 1,h.length + 2,h.length + 3,h.length + 4⟩))
  (h ++ [some (.row [.ptr (.own i 0)]),some (.row (stC sv)),some (.row [.int .i64 op]),some (.row [.int .i64 (plane : Int)]),some (.row [.int .i64 (gone : Int)])]) := by
 refine nX aK aFl aIB aIA (Nat.le_of_ble_eq_true rfl) (by simp [FtB.args,AV.bdd,AV.bdds,Pl.bdd]) (fun hb => ?_) fun hb ha => aX ?_
 · simp only [AV.bdds,AV.bdd,Pl.bdd,stC] at hb
   obtain ⟨h1,⟨h2,h3,h4,_⟩,_⟩ := hb
   simp [bL,bR,cA,cH,cT,bT,AV.bdds,AV.bdd,Pl.bdd,bC,stC]
   exact ⟨by omega,AV.bdd_mono (by omega) _ h2,AV.bdd_mono (by omega) _ h3,AV.bdd_mono (by omega) _ h4⟩
 · simp only [go_sem,mf125,o1.2,o2.2,o3.2,o1.1,o2.1,o3.1,FtB.args]
end Go.Proofs.Ab
namespace Go.Proofs.Ab
open Go Go.Proofs
variable {w0 : World} {h : Heap}
attribute [local irreducible] ACall aS aV aM aP rvC rdC lp rg dr ex un rv rd'
structure rR (d : aO) (x : aD) : Prop where
 lo : -1 ≤ x.to
 hi : x.to < d.places.length
 pp : ∀ n ∈ x.people,0 ≤ n ∧ n < d.people.length
 pl : x.people.length ≤ d.people.length
theorem aEq {d : aO} {s : aB} {at_ : Int} {to : Nat} (hd : d.people.length ≤ 4) (hto : to < d.places.length) : ∀ (k : Nat) (l : List Int) (seats : Int) (gone : Nat),k ≤ d.people.length → l.length + k ≤ d.people.length → (∀ n ∈ l,0 ≤ n ∧ n < d.people.length) → gone < 2 ^ 4 →
 ∀ x ∈ iI d s at_ to k l seats gone,rR d x.1 ∧ x.2 < 2 ^ 4 := by
 intro k
 induction k with
 | zero => intro l seats gone _ _ _ _ x hx; simp [iI] at hx
 | succ k ih =>
  intro l seats gone hk hlk hl hg x hx
  rw [iI] at hx
  have hn : d.people.length - (k + 1) < d.people.length := by omega
  rcases List.mem_append.1 hx with hx | hx
  · split at hx
    · have hl' : ∀ n ∈ l ++ [((d.people.length - (k + 1) : Nat) : Int)],0 ≤ n ∧ n < d.people.length := fun n hn' => by
       rcases List.mem_append.1 hn' with hn' | hn'
       · exact hl n hn'
       · simp at hn'; subst hn'; omega
      rcases List.mem_cons.1 hx with rfl | hx
      · exact ⟨⟨by simp only; omega,by simp only; omega,hl',by simp; omega⟩,aEW hg (by omega)⟩
      · exact ih _ _ _ (by omega) (by simp; omega) hl' (aEW hg (by omega)) x hx
    · cases hx
  · exact ih _ _ _ (by omega) (by omega) hl hg x hx
theorem sI {d : aO} {s : aB} {op : Int} {plane gone : Nat} (hd : d.people.length ≤ 4) (hp : 0 < d.places.length) (hg : gone < 2 ^ 4) : ∀ x ∈ cZ d s op plane gone,rR d x.1 ∧ x.2 < 2 ^ 4 := by
 have key : ∀ k,k ≤ d.places.length → ∀ x ∈ cW d s op plane gone k,rR d x.1 ∧ x.2 < 2 ^ 4 := by
  intro k
  induction k with
  | zero => intro _ x hx; simp [cW] at hx
  | succ k ih =>
   intro hk x hx
   rw [cW] at hx
   rcases List.mem_append.1 hx with hx | hx
   · split at hx
     · rw [rY] at hx
       rcases List.mem_cons.1 hx with rfl | hx
       · exact ⟨⟨by simp only; omega,by simp only; omega,by simp,by simp⟩,hg⟩
       · exact aEq hd (by omega) _ _ _ _ (Nat.le_refl _) (by simp) (by simp) hg x hx
     · cases hx
   · exact ih (by omega) x hx
 intro x hx
 rw [cZ] at hx
 rcases List.mem_cons.1 hx with rfl | hx
 · exact ⟨⟨by simp,by simp only; omega,by simp,by simp⟩,hg⟩
 · exact key _ (Nat.le_refl _) x hx
structure URow (C : List Nat) (H : Heap) (iu P : Nat) (u : List aD) (rows : List (List AV)) : Prop where
 hb : H[iu]? = some (some (.row rows.flatten))
 len : rows.length = P
 two : ∀ c ∈ rows,c.length = 2
 one : ∀ c ∈ rows,c.all one = true
 at_ : ∀ (j : Nat) x,u[j]? = some x → ∃ pv,rows[j]? = some [.int .i64 x.to,pv] ∧ SlN (msk C H) pv x.people
theorem aAv {rows : List (List AV)} (h : ∀ c ∈ rows,c.length = 2) : rows.flatten.length = rows.length * 2 := by
 induction rows with
 | nil => rfl
 | cons c rows ih =>
  rw [List.flatten_cons,List.length_append,h c List.mem_cons_self,ih fun x hx => h x (List.mem_cons_of_mem _ hx),List.length_cons]; omega
theorem aF7 {rows : List (List AV)} (h : ∀ c ∈ rows,c.length = 2) {j : Nat} (hj : j < rows.length) {a b : AV} : rows.flatten.take (j * 2) ++ (a :: b :: rows.flatten.drop (j * 2 + 2)) = (rows.set j [a,b]).flatten := by
 induction rows generalizing j with
 | nil => simp at hj
 | cons c rows ih =>
  have hc := h c List.mem_cons_self
  obtain ⟨x,y,rfl⟩ : ∃ x y,c = [x,y] := by
   match c,hc with
   | [x,y],_ => exact ⟨x,y,rfl⟩
  cases j with
  | zero => simp
  | succ j =>
   have := ih (fun x hx => h x (List.mem_cons_of_mem _ hx)) (j := j) (by simpa using hj)
   rw [show (j + 1) * 2 = j * 2 + 1 + 1 by omega,show j * 2 + 1 + 1 + 2 = j * 2 + 2 + 1 + 1 by omega]
   simp only [List.flatten_cons,List.cons_append,List.nil_append,List.take_succ_cons,List.drop_succ_cons,List.set_cons_succ,this]
theorem URow.sl {C : List Nat} {H : Heap} {iu P : Nat} {u : List aD} {rows : List (List AV)} (a : URow C H iu P u rows) {f : Bool} : Sl w0 H 2 (.sl (.own iu 0) P 2 f) rows := by
 have := iP (w0 := w0) (H := H) (full := f) (io := iu) (rows := rows) (es := 2) a.hb a.two
 rwa [a.len] at this
theorem URow.keep {C D : List Nat} {H H' : Heap} {iu P : Nat} {u : List aD} {rows : List (List AV)} (a : URow C H iu P u rows) (t : Keep D H H') (hi : iu ∉ D) (hD : ∀ i ∈ D,i ∈ C ∨ H.length ≤ i) : URow C H' iu P u rows :=
 ⟨t.at_ _ _ hi a.hb,a.len,a.two,a.one,fun j x hx => by
  obtain ⟨pv,h1,h2⟩ := a.at_ j x hx
  exact ⟨pv,h1,h2.sub (t.msk hD)⟩⟩
theorem URow.remask {C C' : List Nat} {H H' : Heap} {iu P : Nat} {u : List aD} {rows : List (List AV)} (a : URow C H iu P u rows) (hb : H'[iu]? = H[iu]?) (t : aC (msk C H) (msk C' H')) : URow C' H' iu P u rows :=
 ⟨by rw [hb]; exact a.hb,a.len,a.two,a.one,fun j x hx => by
  obtain ⟨pv,h1,h2⟩ := a.at_ j x hx
  exact ⟨pv,h1,h2.sub t⟩⟩
theorem URow.put {C : List Nat} {H : Heap} {iu P : Nat} {u : List aD} {rows : List (List AV)} (a : URow C H iu P u rows) (hiC : iu ∈ C) {x : aD} {pv : AV} (hu : u.length < P) (hp : SlN (msk C H) pv x.people) (ho : Ab.one pv = true) :
 URow C (H.set iu (some (.row (rows.set u.length [.int .i64 x.to,pv]).flatten))) iu P (u ++ [x]) (rows.set u.length [.int .i64 x.to,pv]) := by
 have hl := aF a.hb
 refine ⟨List.getElem?_set_self hl,by rw [List.length_set,a.len],fun c hc => ?_,fun c hc => ?_,fun j y hy => ?_⟩
 · rcases List.mem_or_eq_of_mem_set hc with hc | rfl
   · exact a.two c hc
   · rfl
 · rcases List.mem_or_eq_of_mem_set hc with hc | rfl
   · exact a.one c hc
   · simp only [List.all_cons,List.all_nil,ho,Bool.and_true]; rfl
 · rw [xZ hiC]
   by_cases e : j = u.length
   · subst e
     simp at hy; subst hy
     exact ⟨pv,List.getElem?_set_self (by rw [a.len]; exact hu),hp⟩
   · have hj : j < u.length := by have := aF hy; simp at this; omega
     rw [List.getElem?_append_left hj] at hy
     obtain ⟨pv',h1,h2⟩ := a.at_ j y hy
     exact ⟨pv',by rw [List.getElem?_set_ne (Ne.symm e)]; exact h1,h2⟩
theorem URow.less {C : List Nat} {H : Heap} {iu P : Nat} {u : List aD} {x : aD} {rows : List (List AV)} (a : URow C H iu P (u ++ [x]) rows) : URow C H iu P u rows :=
 ⟨a.hb,a.len,a.two,a.one,fun j y hy => a.at_ j y (by rw [List.getElem?_append_left (aF hy)]; exact hy)⟩
theorem URow.back {C D : List Nat} {H H' : Heap} {iu P : Nat} {u u' : List aD} {rows rows' : List (List AV)} (a : URow C H iu P u rows) (a' : URow D H' iu P u' rows') (e : ∀ j,j < u.length → rows'[j]? = rows[j]?) (t : aC (msk C H) (msk C H')) : URow C H' iu P u rows' :=
 ⟨a'.hb,a'.len,a'.two,a'.one,fun j x hx => by
  obtain ⟨pv,h1,h2⟩ := a.at_ j x hx
  exact ⟨pv,by rw [e j (aF hx)]; exact h1,h2.sub t⟩⟩
theorem aAS.st {H : Heap} {N : Nat} {s : aB} {v : StV} {C : List Nat} (a : aAS w0 H N s v) (hC : ∀ i ∈ C,i < N) : StS w0 (msk C H) s v := by
 have key : ∀ {y : AV} {l : List Int},iQ w0 H N y l → SlO w0 (msk C H) y l := fun {y l} o => by
  have hout : ∀ i,N ≤ i → (msk C H)[i]? = H[i]? := fun i hi => bI fun hc => by have := hC i hc; omega
  by_cases hl : l = []
  · rcases o.z hl with rfl | ⟨io,f,c,h1,rfl,h2⟩
    · subst hl; exact ⟨.inl ⟨rfl,rfl⟩,fun _ => rfl⟩
    · subst hl
      have h3 : (msk C H)[io]? = some (some (.row c)) := by rw [hout io h1]; exact h2
      exact ⟨.inr ⟨.own io 0,f,⟨1,rfl,rfl⟩,aF h3,fun j c hc => by simp at hc⟩,fun _ => by simp [srcOf,eD,rdn,h3]⟩
  · obtain ⟨io,h1,h2,h3,h4⟩ := o.b hl
    have h5 : (msk C H)[io]? = some (some (.row (aQ l))) := by rw [hout io h1]; exact h4
    have := SlN.own (f := false) h5 hl
    rw [h3]
    exact ⟨this.s,fun e => absurd e hl⟩
 exact ⟨key a.p,key a.l,key a.e⟩
theorem UnV.sub {H : Heap} {v : AV} {u : List aD} (a : UnV w0 h v u) (t : aC h H) : UnV w0 H v u := NS.mono a t fun _ _ ⟨pv,e,r⟩ => ⟨pv,e,Sl.sub r t⟩
def FlgtO (w0 : World) (h : Heap) (x : aD) (c : List AV) : Prop := ∃ pv,c = [.int .i64 x.to,pv] ∧ SlO w0 h pv x.people
structure UnP (w0 : World) (h : Heap) (v : AV) (u : List aD) : Prop where
 n : NS w0 h 2 (FlgtO w0 h) v u
 e : u = [] → srcOf w0 h 2 v = some (0,[])
 nn : v ≠ .nilS
theorem UnP.v {v : AV} {u : List aD} (a : UnP w0 h v u) : UnV w0 h v u := NS.mono a.n aC.refl fun _ _ ⟨pv,e,r⟩ => ⟨pv,e,r.s⟩
theorem vS {H : Heap} {v : AV} {es : Nat} {r : Nat × List AV} (e : srcOf w0 h es v = some r) (t : aC h H) : srcOf w0 H es v = some r := by
 cases v <;> simp only [srcOf] at e ⊢
 all_goals first
  | exact e
  | (split at e
     · rename_i h1
       rw [if_pos h1]
       simp only [Option.map_eq_some_iff] at e ⊢
       obtain ⟨x,h2,h3⟩ := e
       exact ⟨x,t.rdn h2,h3⟩
     · cases e)
  | cases e
theorem UnP.sub {H : Heap} {v : AV} {u : List aD} (a : UnP w0 h v u) (t : aC h H) : UnP w0 H v u := ⟨NS.mono a.n t fun _ _ ⟨pv,e,r⟩ => ⟨pv,e,r.sub t⟩,fun e => vS (a.e e) t,a.nn⟩
theorem SlN.o {v : AV} {l : List Int} (a : SlN h v l) : SlO w0 h v l := ⟨a.s,fun e => by
 rcases a with ⟨_,rfl⟩ | ⟨h1,_⟩
 · rfl
 · exact absurd e h1⟩
theorem URow.unv {C : List Nat} {H : Heap} {iu : Nat} {u : List aD} {rows : List (List AV)} (a : URow (iu :: C) H iu u.length u rows) (hi : iu ∉ C) {f : Bool} : UnP w0 (msk C H) (.sl (.own iu 0) u.length 2 f) u := by
 refine ⟨⟨rows,a.len,?_,fun j x c hx hc => ?_⟩,fun e => ?_,by simp⟩
 · have : (msk C H)[iu]? = some (some (.row rows.flatten)) := by rw [bI hi]; exact a.hb
   have := iP (w0 := w0) (H := msk C H) (full := f) (io := iu) (rows := rows) (es := 2) this a.two
   rwa [a.len] at this
 · obtain ⟨pv,h1,h2⟩ := a.at_ j x hx
   rw [h1] at hc
   cases hc
   exact ⟨pv,rfl,(h2.sub (jL (ms := C) fun i hi => List.mem_cons_of_mem _ hi)).o⟩
 · have : (msk C H)[iu]? = some (some (.row rows.flatten)) := by rw [bI hi]; exact a.hb
   subst e
   simp [srcOf,eD,rdn,this]
def UnYV (w0 : World) (C : List Nat) (x : List aD × aB) (H : Heap) (args : List AV) : Prop := ∃ uv nv,args = [uv,.agg (stC nv)] ∧ UnP w0 (msk C H) uv x.1 ∧ StS w0 (msk C H) x.2 nv
structure PlB where
 bu : Nat
 bd : Nat
 bs : Nat
 bo : Nat
 by_ : Nat
 bm : Nat
def PlB.args (b : PlB) : List AV := [.ptr (.own b.bu 0),.ptr (.own b.bd 0),.ptr (.own b.bs 0),.ptr (.own b.bo 0),.ptr (.own b.by_ 0),.ptr (.own b.bm 0)]
structure PlI (w0 : World) (C : List Nat) (d : aO) (v : cJ) (m : AV) (i : Nat) (s : aB) (sv : StV) (op : Int) (q iu : Nat) (b : PlB) (H : Heap) : Prop where
 b1 : (msk C H)[b.bu]? = some (some (.row [.sl (.own iu 0) d.planes.length 2 true]))
 b2 : (msk C H)[b.bd]? = some (some (.row [.ptr (.own i 0)]))
 b3 : (msk C H)[b.bs]? = some (some (.row (stC sv)))
 b4 : (msk C H)[b.bo]? = some (some (.row [.int .i64 op]))
 b5 : (msk C H)[b.by_]? = some (some (.row [.yld q]))
 b6 : (msk C H)[b.bm]? = some (some (.row [.fn (.func 124) [] b.args]))
 hD : pC w0 (msk C H) d v m i
 hs : StS w0 (msk C H) s sv
theorem PlI.sub {C C' : List Nat} {d : aO} {v : cJ} {m : AV} {i : Nat} {s : aB} {sv : StV} {op : Int} {q iu : Nat} {b : PlB} {H H' : Heap} (a : PlI w0 C d v m i s sv op q iu b H) (hs : aC (msk C H) (msk C' H')) : PlI w0 C' d v m i s sv op q iu b H' :=
 ⟨hs.2 _ _ a.b1,hs.2 _ _ a.b2,hs.2 _ _ a.b3,hs.2 _ _ a.b4,hs.2 _ _ a.b5,hs.2 _ _ a.b6,a.hD.sub hs,a.hs.sub hs⟩
theorem unit_c (C : List Nat) (d : aO) (v : cJ) (m : AV) (i : Nat) (s : aB) (sv : StV) (op : Int) (q iu : Nat) (b : PlB) (K : Heap → Prop) (sk : mD d s) (ps : ∀ p ∈ d.planes,0 ≤ p.seats ∧ p.seats ≤ 1000) (hp0 : 0 < d.places.length) (o1 : 0 ≤ op) (o2 : op < 2 ^ 50) (hiC : iu ∉ C) :
 ∀ (k gone : Nat) (u : List aD) (r : List (List aD × aB)) (rows : List (List AV)) (O : List Nat) (h : Heap),(∀ i ∈ iu :: C,i < h.length) → (∀ i ∈ O,i < h.length) → (iu ∈ O) → u.length + k = d.planes.length → gone < 2 ^ 4 → (∀ x ∈ u,rR d x) → PlI w0 (iu :: C) d v m i s sv op q iu b h → URow (iu :: C) h iu d.planes.length u rows →
  fF Try.prog w0 q C (UnYV w0 C) (fun _ => True) K (cR d s op k gone u ++ r) O h →
  ACall Try.prog w0 124 ([.int .i64 (u.length : Int),.int .i64 (gone : Int)] ++ b.args) h fun y H => Keep (iu :: C) h H ∧ (∃ O',(∀ i ∈ O',i ∈ O ∨ h.length ≤ i) ∧ (∀ i ∈ O',i < H.length) ∧ (∀ i ∈ O,i ∈ O') ∧ IterR Try.prog w0 q C (UnYV w0 C) (fun _ => True) K r y O' H) ∧ ∃ rows',URow (iu :: C) H iu d.planes.length u rows' ∧ ∀ j,j < u.length → rows'[j]? = rows[j]? := by
 intro k
 induction k with
 | zero =>
  intro gone u r rows O h hCl hOl hiO huk hg hu hP hR hI
  have hul : u.length = d.planes.length := by omega
  refine bM aK aAe aCq aCp (Nat.le_of_ble_eq_true rfl) fun hb ha => aX ?_
  have un1 := cK (ms := iu :: C) (A := h)
  have c1 : ∀ L,(h ++ L)[b.bu]? = some (some (.row [.sl (.own iu 0) d.planes.length 2 true])) := fun L => aA (un1.2 _ _ hP.b1)
  have c2 : ∀ L,(h ++ L)[b.bd]? = some (some (.row [.ptr (.own i 0)])) := fun L => aA (un1.2 _ _ hP.b2)
  have c3 : ∀ L,(h ++ L)[b.bs]? = some (some (.row (stC sv))) := fun L => aA (un1.2 _ _ hP.b3)
  have c4 : ∀ L,(h ++ L)[b.bo]? = some (some (.row [.int .i64 op])) := fun L => aA (un1.2 _ _ hP.b4)
  have c5 : ∀ L,(h ++ L)[b.by_]? = some (some (.row [.yld q])) := fun L => aA (un1.2 _ _ hP.b5)
  rw [hul]
  simp only [go_sem,mf124,PlB.args,c1,c2,c3,c4,beq_self_eq_true]
  obtain ⟨G,eG⟩ : ∃ G,G = h ++ [some (Blk.row [.int .i64 (d.planes.length : Int)]),some (Blk.row [.bool false])] := ⟨_,rfl⟩
  rw [← eG]
  have hG : aC h G := by rw [eG]; exact aC.refl.app
  have gl : G.length = h.length + 2 := by rw [eG]; simp
  have gr : G[h.length + 1]? = some (some (.row [.bool false])) := by rw [eG]; simp
  have huv : UnP w0 (msk C h) (.sl (.own iu 0) d.planes.length 2 true) u := by
   rw [← hul] at hR ⊢
   exact hR.unv hiC
  have hu4 := fun x hx => (hu x hx)
  have dl := hP.hD.dl
  have uk : aBX d u := ⟨hul,fun x hx => (hu x hx).hi,fun x hx => (hu x hx).pp,fun x hx => by have := (hu x hx).pl; omega⟩
  have hmC : aC (msk C h) G := cK.trans hG
  refine aW (ACall.vc (first := []) (args := [_,_,_,_]) (fly_c d v m i s sv op u _ ((hP.hD.sub un1).sub hG) ((hP.hs.sub un1).sub hG) sk (huv.sub hmC).v uk o1 o2).toA) ?_
  rintro y H1 ⟨sH,nv,rfl,st,alt⟩
  have p1 := Sl.one st.planes.s
  have p2 := Sl.one st.legs.s
  have p3 := Sl.one st.people.s
  have hH : aC h H1 := hG.trans sH
  have hHl := sH.1
  have d1 : ∀ L,(H1 ++ L)[b.bu]? = some (some (.row [.sl (.own iu 0) d.planes.length 2 true])) := fun L => aA (hH.2 _ _ (un1.2 _ _ hP.b1))
  have d5 : ∀ L,(H1 ++ L)[b.by_]? = some (some (.row [.yld q])) := fun L => aA (hH.2 _ _ (un1.2 _ _ hP.b5))
  have dr : ∀ L,(H1 ++ L)[h.length + 1]? = some (some (.row [.bool false])) := fun L => aA (sH.2 _ _ gr)
  have hset : ∀ X L,(H1 ++ L).set (h.length + 1) X = H1.set (h.length + 1) X ++ L := fun X L => iO (by omega)
  have hget : ∀ X L,(H1.set (h.length + 1) X ++ L)[h.length + 1]? = some X := fun X L => by rw [List.getElem?_append_left (by rw [List.length_set]; omega),List.getElem?_set_self (by omega)]
  have hiu := hCl iu (by simp)
  by_cases er : (dC d s op u).2.1 = 1
  · rw [cR,if_pos er] at hI
    simp only [go_sem,p1.1,p2.1,p3.1,er,bne_self_eq_false,d1,d5]
    obtain ⟨HX,eHX⟩ : ∃ HX,HX = H1 ++ [some (Blk.row [nv.pl,nv.le,nv.pe]),some (Blk.row [.int .i64 1,.int .i64 (dC d s op u).2.2])] := ⟨_,rfl⟩
    rw [← eHX]
    have hHX : aC H1 HX := by rw [eHX]; exact aC.refl.app
    have hhX : aC h HX := hH.trans hHX
    have hstv : StS w0 (msk C HX) (dC d s op u).1 nv := by
     rcases alt with ⟨e1,e2⟩ | o
     · rw [e1,e2]
       exact hP.hs.sub ((aC.toK (C := C) hhX).mskm (fun i hi => .inl (List.mem_cons_of_mem _ hi)) (fun i hi => .inl (List.mem_cons_of_mem _ hi)))
     · exact (o.st (C := C) fun i hi => by have := hCl i (List.mem_cons_of_mem _ hi); omega).sub ((aC.toK (C := C) hHX).msk fun i hi => .inl hi)
    refine aW (fF.call hI hhX.toK ((h.length + 1) :: O) trivial (fun i hi => by rcases List.mem_cons.1 hi with rfl | hi; exact .inr (by omega); exact .inl hi) (fun i hi => by
     have h1 := hhX.1
     have h2 := hHX.1
     rcases List.mem_cons.1 hi with rfl | hi
     · omega
     · have := hOl i hi; omega) ⟨_,nv,rfl,huv.sub ((aC.toK (C := C) hhX).msk fun i hi => .inl hi),hstv⟩) ?_
    rintro y H3 ⟨k3,r3⟩
    have hrC : h.length + 1 ∉ C := fun hc => by have := hCl _ (List.mem_cons_of_mem _ hc); omega
    have hrX : HX[h.length + 1]? = some (some (.row [.bool false])) := hHX.2 _ _ (sH.2 _ _ gr)
    have hr3 : H3[h.length + 1]? = some (some (.row [.bool false])) := k3.at_ _ _ hrC hrX
    have hl3 := aF hr3
    have hget3 : ∀ X,(H3.set (h.length + 1) X)[h.length + 1]? = some X := fun X => List.getElem?_set_self hl3
    obtain ⟨yb,rfl⟩ : ∃ yb,y = .bool yb := by rcases r3 with ⟨e,_⟩ | ⟨e,_⟩ <;> exact ⟨_,e⟩
    simp only [go_sem,hr3,hget3]
    have kC : Keep C h (H3.set (h.length + 1) (some (.row [.bool yb]))) := ((aC.toK hhX).trans k3).set (.inr (by omega))
    refine ⟨kC.more fun i hi => List.mem_cons_of_mem _ hi,⟨(h.length + 1) :: O,fun i hi => by rcases List.mem_cons.1 hi with rfl | hi; exact .inr (by omega); exact .inl hi,fun i hi => ?_,fun i hi => List.mem_cons_of_mem _ hi,r3.keep (Keep.refl.set (.inl (by simp)))⟩,rows,hR.keep kC hiC (fun i hi => .inl (List.mem_cons_of_mem _ hi)),fun _ _ => rfl⟩
    have h1 := kC.le
    rw [List.length_set] at h1
    rcases List.mem_cons.1 hi with rfl | hi
    · exact hl3
    · have := hOl i hi; omega
  · rw [cR,if_neg er] at hI
    have er' : ((dC d s op u).2.1 != 1) = true := by simp [er]
    simp only [go_sem,p1.1,p2.1,p3.1,er',d1,d5,dr,hset,hget]
    obtain ⟨HX,eHX⟩ : ∃ HX,HX = H1.set (h.length + 1) (some (Blk.row [.bool true])) ++ [some (Blk.row [nv.pl,nv.le,nv.pe]),some (Blk.row [.int .i64 (dC d s op u).2.1,.int .i64 (dC d s op u).2.2])] := ⟨_,rfl⟩
    rw [← eHX]
    have hhX : aC h HX := by rw [eHX]; exact (hH.setR (by omega)).app
    have hXl : HX.length = H1.length + 2 := by rw [eHX]; simp
    refine ⟨hhX.toK,⟨O,fun i hi => .inl hi,fun i hi => ?_,fun i hi => hi,.inl ⟨rfl,hI.keep hhX.toK⟩⟩,rows,hR.keep (D := C) hhX.toK hiC (fun i hi => .inl (List.mem_cons_of_mem _ hi)),fun _ _ => rfl⟩
    have h1 := hhX.1
    have := hOl i hi
    omega
 | succ k ih =>
  intro gone u r rows O h hCl hOl hiO huk hg hu hP hR hI
  have hul : u.length < d.planes.length := by omega
  refine bM aK aAe aCq aCp (Nat.le_of_ble_eq_true rfl) fun hb ha => aX ?_
  have un1 := cK (ms := iu :: C) (A := h)
  have c1 : ∀ L,(h ++ L)[b.bu]? = some (some (.row [.sl (.own iu 0) d.planes.length 2 true])) := fun L => aA (un1.2 _ _ hP.b1)
  have c2 : ∀ L,(h ++ L)[b.bd]? = some (some (.row [.ptr (.own i 0)])) := fun L => aA (un1.2 _ _ hP.b2)
  have c3 : ∀ L,(h ++ L)[b.bs]? = some (some (.row (stC sv))) := fun L => aA (un1.2 _ _ hP.b3)
  have c4 : ∀ L,(h ++ L)[b.bo]? = some (some (.row [.int .i64 op])) := fun L => aA (un1.2 _ _ hP.b4)
  have dpl := hP.hD.pl
  have p1 := Sl.one (hP.hs.planes.s)
  have p2 := Sl.one (hP.hs.legs.s)
  have p3 := Sl.one (hP.hs.people.s)
  have e0 : ((u.length : Int) == (d.planes.length : Int)) = false := by simp; omega
  simp only [go_sem,mf124,PlB.args,c1,c2,c3,c4,e0]
  refine aJ (aBH i sv op u.length gone p1 p2 p3).v ?_
  simp only [go_sem]
  refine xP [2,7,8,10,41] ?_
  simp only [go_sem]
  refine aBo (fid := 146) (first := []) rfl (.inl rfl) fun hca hcb hps => ?_
  simp only [go_sem]
  obtain ⟨fb,efb⟩ : ∃ fb : FtB,fb = ⟨h.length + 2,h.length + 3,h.length + 4,h.length + 5,h.length + 6⟩ := ⟨_,rfl⟩
  rw [← efb]
  obtain ⟨rec_,erec⟩ : ∃ rec_ : LoopState → Option Code → Blk,rec_ = fun st pd => Blk.loop 54 [(2,AV.ptr (Pl.own b.bu 0)),(7,AV.ptr (Pl.own b.bm 0)),(8,AV.ptr (Pl.own h.length 0)),(10,AV.ptr (Pl.own (h.length + 1) 0)),(41,AV.fn (Fn.func 146) [] fb.args)] #[42,43] (dX (jF 124) [1,1,0,1,0,0]) (dX (jF 124) [1,1,0,1,0,1]) st pd := ⟨_,rfl⟩
  obtain ⟨G,eG⟩ : ∃ G,G = h ++ [some (Blk.row [AV.int IntKind.i64 (u.length : Int)]),some (Blk.row [AV.bool false]),some (Blk.row [AV.ptr (Pl.own i 0)]),some (Blk.row [sv.pl,sv.le,sv.pe]),some (Blk.row [AV.int IntKind.i64 op]),some (Blk.row [AV.int IntKind.i64 (u.length : Int)]),some (Blk.row [AV.int IntKind.i64 (gone : Int)]),some (rec_ .ready none)] := ⟨_,rfl⟩
  have eG' := eG
  simp only [erec] at eG'
  rw [← eG']
  have hhG : aC h G := by rw [eG]; exact aC.refl.app
  have gl : G.length = h.length + 8 := by rw [eG]; simp
  have g0 : G[h.length]? = some (some (.row [.int .i64 (u.length : Int)])) := by rw [eG]; simp
  have g1 : G[h.length + 1]? = some (some (.row [.bool false])) := by rw [eG]; simp
  have g7 : G[h.length + 7]? = some (some (rec_ .ready none)) := by rw [eG]; simp
  have hiu := hCl iu (by simp)
  have hCh : ∀ c ∈ C,c < h.length := fun c hc => hCl c (List.mem_cons_of_mem _ hc)
  obtain ⟨C',eC'⟩ : ∃ C',C' = (h.length + 7) :: (h.length + 1) :: iu :: C := ⟨_,rfl⟩
  have hC' : ∀ c ∈ C',c = h.length + 7 ∨ c = h.length + 1 ∨ c = iu ∨ c ∈ C := fun c hc => by rw [eC'] at hc; simpa using hc
  have hC'h : ∀ c ∈ C',c ∈ iu :: C ∨ h.length ≤ c := fun c hc => by rcases hC' c hc with rfl | rfl | rfl | h1; exact .inr (by omega); exact .inr (by omega); exact .inl (by simp); exact .inl (List.mem_cons_of_mem _ h1)
  have hC'n : ∀ c,h.length + 2 ≤ c → c ≠ h.length + 7 → c ∉ C' := fun c h1 h2 hc => by rcases hC' c hc with h3 | h3 | h3 | h3; omega; omega; omega; have := hCh c h3; omega
  have hsC : aC (msk (iu :: C) h) (msk C' G) := (aC.toK (C := []) hhG).mskm (fun i hi => by cases hi) hC'h
  have hF : FtI w0 C' d v m i s sv op u.length gone fb G := by
   rw [efb]
   refine ⟨?_,?_,?_,?_,?_,hP.hD.sub hsC,hP.hs.sub hsC⟩
   · simp only; rw [bI (hC'n _ (by omega) (by omega)),eG]; simp
   · simp only; rw [bI (hC'n _ (by omega) (by omega)),eG]; simp [stC]
   · simp only; rw [bI (hC'n _ (by omega) (by omega)),eG]; simp
   · simp only; rw [bI (hC'n _ (by omega) (by omega)),eG]; simp
   · simp only; rw [bI (hC'n _ (by omega) (by omega)),eG]; simp
  rw [cR,show d.planes.length - (k + 1) = u.length by omega] at hI
  have hfl := sI (s := s) (op := op) (plane := u.length) (gone := gone) hP.hD.dl hp0 hg
  refine aDO C' d v m i s sv (h.length + 7) op u.length gone fb _ sk hul ps o1 o2 (fun c hc => by rcases hC' c hc with rfl | rfl | rfl | h1; omega; omega; omega; have := hCh c h1; omega) hg hF ?_
  generalize cZ d s op u.length gone = fl at hI hfl
  obtain ⟨KF, eKF⟩ : ∃ KF : Heap → Prop, KF = fun h' => rgE Try.prog w0 none 54 h.length (resK w0 [RV.c 10 none] fun y H => Keep (iu :: C) h H ∧ (∃ O', (∀ i ∈ O', i ∈ O ∨ h.length ≤ i) ∧ (∀ i ∈ O', i < H.length) ∧ (∀ i ∈ O, i ∈ O') ∧ IterR Try.prog w0 q C (UnYV w0 C) (fun _ => True) K r y O' H) ∧ ∃ rows', URow (iu :: C) H iu d.planes.length u rows' ∧ ∀ j, j < u.length → rows'[j]? = rows[j]?)
        [It.inBlk 0,It.code ((SC.reg [MIx.op none none (MOp.store (Opd.t 10) (Opd.k (AV.bool true)) 1)]).seq SC.ret)]
        [(2,AV.ptr (Pl.own b.bu 0)),(7,AV.ptr (Pl.own b.bm 0)),(8,AV.ptr (Pl.own h.length 0)),(10,AV.ptr (Pl.own (h.length + 1) 0)),(41,AV.fn (Fn.func 146) [] fb.args)] h'[h.length + 7]? (h'.set (h.length + 7) none) := ⟨_,rfl⟩
  rw [← eKF]
  have hsub' : ∀ c ∈ iu :: C,c ∈ C' := fun c hc => by rw [eC']; exact List.mem_cons_of_mem _ (List.mem_cons_of_mem _ hc)
  have hiC' : iu ∈ C' := hsub' iu (by simp)
  have h7C : h.length + 7 ∈ C' := by rw [eC']; simp
  have h1C : h.length + 1 ∈ C' := by rw [eC']; simp
  have claim : ∀ (l : List (aD × Nat)) (O1 : List Nat) (H : Heap),(∀ x ∈ l,rR d x.1 ∧ x.2 < 2 ^ 4) → (∀ i ∈ O1,i ∈ O ∨ h.length ≤ i) → (∀ i ∈ O1,i < H.length) → (∀ i ∈ O,i ∈ O1) → h.length + 1 ∈ O1 → h.length + 7 ∈ O1 → Keep C' G H →
   H[h.length + 7]? = some (some (rec_ .ready none)) → H[h.length + 1]? = some (some (.row [.bool false])) → (∃ rows1,URow C' H iu d.planes.length u rows1 ∧ ∀ j,j < u.length → rows1[j]? = rows[j]?) →
   fF Try.prog w0 q C (UnYV w0 C) (fun _ => True) K (l.flatMap (fun x => cR d s op k x.2 (u ++ [x.1])) ++ r) O1 H →
   fF Try.prog w0 (h.length + 7) C' (aB2 w0 C') (· = []) KF l [] H := by
   intro l
   induction l with
   | nil =>
    intro O1 H _ hO1 hOH hu1 hb1 hb7 kG h7 h1 ⟨rows1,hR1,er1⟩ it
    intro H2 t2
    have k7 : H2[h.length + 7]? = some (some (rec_ .ready none)) := t2.at_ _ _ (by simp) h7
    have k1 : (H2.set (h.length + 7) none)[h.length + 1]? = some (some (.row [.bool false])) := by rw [List.getElem?_set_ne (by omega)]; exact t2.at_ _ _ (by simp) h1
    have hl1 := aF k1
    have k1' : ∀ X,((H2.set (h.length + 7) none).set (h.length + 1) X)[h.length + 1]? = some X := fun X => List.getElem?_set_self hl1
    have hl2 : h.length + 7 < H2.length := aF k7
    simp only [eKF,k7,erec]
    simp only [go_sem,k1,k1']
    have kA : Keep O1 H ((H2.set (h.length + 7) none).set (h.length + 1) (some (.row [.bool true]))) := ((t2.more (D := O1) (by simp)).set (.inl hb7)).set (.inl hb1)
    have kB : Keep (iu :: C) h ((H2.set (h.length + 7) none).set (h.length + 1) (some (.row [.bool true]))) :=
     ((((aC.toK (C := C') hhG).trans kG).trans (t2.more (by simp))).old hC'h).set (.inr (by omega)) |>.set (.inr (by omega))
    have hR2 : URow C' H2 iu d.planes.length u rows1 := hR1.keep (D := []) t2 (by simp) (by simp)
    refine ⟨kB,⟨O1,hO1,fun i hi => by have := kA.le; have := hOH i hi; rw [List.length_set,List.length_set] at *; omega,hu1,.inl ⟨rfl,by simpa using it.keep kA⟩⟩,rows1,?_,er1⟩
    refine hR2.remask (by rw [List.getElem?_set_ne (by omega),List.getElem?_set_ne (by omega)]) ?_
    have := jL (ms := iu :: C) (ns := C') (A := (H2.set (h.length + 7) none).set (h.length + 1) (some (.row [.bool true]))) hsub'
    rwa [xZ h1C,xZ h7C] at this
   | cons x l ihl =>
    intro O1 H hl hO1 hOH hu1 hb1 hb7 kG h7 h1 ⟨rows1,hR1,er1⟩ it
    intro H2 args O2 hg0 t2 h2o h2l ⟨pv,ea,hpv⟩
    subst hg0; subst ea
    have k7 : H2[h.length + 7]? = some (some (rec_ .ready none)) := t2.at_ _ _ (by simp) h7
    have k7' := k7
    simp only [erec] at k7
    refine rT (psl := [42,43]) aK rfl aEf aEe R124_0a.eq_1 R124_0b.eq_1 k7 rfl hps hca hcb fun hb2 ha2 => ?_
    rw [← List.append_nil H2]
    have hpo := Sl.one (hpv.s (w0 := w0))
    obtain ⟨A,eA⟩ : ∃ A,A = H2 ++ [some (Blk.row [.int .i64 x.1.to,pv])] := ⟨_,rfl⟩
    have hHA : aC H2 A := by rw [eA]; exact aC.refl.app
    have a7 : A[h.length + 7]? = some (some (rec_ .ready none)) := hHA.2 _ _ k7'
    have a7' := a7
    simp only [erec] at a7'
    simp only [go_sem,hpo.1,← eA,a7']
    obtain ⟨B0,eB0⟩ : ∃ B0,B0 = A.set (h.length + 7) (some (rec_ .busy none)) := ⟨_,rfl⟩
    have eB0' := eB0
    simp only [erec] at eB0'
    rw [← eB0']
    have l7 := aF a7
    have kHB : Keep [h.length + 7] H B0 := by rw [eB0]; exact ((t2.more (by simp)).trans hHA.toK).set (.inl (by simp))
    have khB : Keep C' h B0 := ((aC.toK hhG).trans kG).trans (kHB.more (by simp [h7C]))
    have hPB := hP.sub ((khB.old hC'h).msk (ms := iu :: C) fun i hi => .inl hi)
    have un2 := cK (ms := iu :: C) (A := B0)
    have e1 : B0[b.bu]? = some (some (.row [.sl (.own iu 0) d.planes.length 2 true])) := un2.2 _ _ hPB.b1
    have e6 : ∀ X,(B0.set iu (some X))[b.bm]? = some (some (.row [.fn (.func 124) [] b.args])) := fun X => by
     have hne : iu ≠ b.bm := fun e => by have := hPB.b6; rw [← e,uC (by simp) (by have := khB.le; omega)] at this; cases this
     rw [List.getElem?_set_ne hne]; exact un2.2 _ _ hPB.b6
    have h0C : h.length ∉ C' := fun hc => by rcases hC' _ hc with h3 | h3 | h3 | h3; omega; omega; omega; have := hCh _ h3; omega
    have e8 : B0[h.length]? = some (some (.row [.int .i64 (u.length : Int)])) := (kHB.more (D := C') (by simp [h7C])).at_ _ _ h0C (kG.at_ _ _ h0C g0)
    have e8' : ∀ X,(B0.set iu (some X))[h.length]? = some (some (.row [.int .i64 (u.length : Int)])) := fun X => by rw [List.getElem?_set_ne (by omega)]; exact e8
    have e13 : B0[H2.length]? = some (some (.row [.int .i64 x.1.to,pv])) := by
     have : h.length + 7 ≠ H2.length := by have := aF k7'; omega
     rw [eB0,List.getElem?_set_ne this,eA]; simp
    have hRB : URow C' B0 iu d.planes.length u rows1 := by
     refine hR1.remask ?_ (kHB.msk fun i hi => .inl (by simp at hi; subst hi; exact h7C))
     have := hR1.hb
     rw [this]; exact kHB.at_ _ _ (by simp; omega) this
    have eiu := hRB.hb
    have eix : cB 2 (.sl (.own iu 0) d.planes.length 2 true) (some u.length) = some (.ptr (.own iu (u.length * 2))) := by simp [cB,eD,Pl.add,hul]
    have fl2 : rows1.flatten.length = d.planes.length * 2 := by rw [aAv hR1.two,hR1.len]
    have hfs := aF7 hR1.two (j := u.length) (by rw [hR1.len]; exact hul) (a := .int .i64 x.1.to) (b := pv)
    simp only [go_sem,e1,e8,e13,eix,eiu,hpo.1,fl2,hfs,e6,e8']
    obtain ⟨B,eB⟩ : ∃ B,B = B0.set iu (some (Blk.row (rows1.set u.length [AV.int IntKind.i64 x.1.to,pv]).flatten)) := ⟨_,rfl⟩
    rw [← eB]
    have hpB : SlN (msk C' B0) pv x.1.people := hpv.sub ((show Keep [h.length + 7] H2 B0 by rw [eB0]; exact hHA.toK.set (.inl (by simp))).msk fun i hi => .inl (by simp at hi; subst hi; exact h7C))
    have hRx := hRB.put hiC' hul hpB hpo.1
    rw [← eB] at hRx
    have kB0B : Keep [iu] B0 B := by rw [eB]; exact Keep.refl.set (.inl (by simp))
    have hPx := hPB.sub (kB0B.msk (ms := iu :: C) fun i hi => .inl (by simp at hi; simp [hi]))
    have kHBx : Keep O1 H B := (kHB.more (by simp [hb7])).trans (kB0B.more (by simp [hu1 _ hiO]))
    have itB := it.keep kHBx
    rw [List.flatMap_cons,List.append_assoc] at itB
    have hBl := kHBx.le
    have hxok := hl x (by simp)
    have hcall := ih x.2 (u ++ [x.1]) (l.flatMap (fun x => cR d s op k x.2 (u ++ [x.1])) ++ r) _ O1 B (fun c hc => by have := hCl c hc; have := khB.le; have := kB0B.le; omega) (fun c hc => by have := hOH c hc; omega) (hu1 _ hiO) (by simp; omega) hxok.2
     (fun y hy => by rcases List.mem_append.1 hy with hy | hy; exact hu y hy; simp at hy; subst hy; exact hxok.1) hPx (hRx.remask rfl (jL hsub')) itB
    rw [List.length_append,List.length_singleton,Int.natCast_add,Int.natCast_one] at hcall
    refine ⟨by omega,(by unfold I64; omega),?_⟩
    refine aW (ACall.vc (first := []) (args := [_,_]) (by simpa using hcall)) ?_
    rintro y H3 ⟨k3,⟨O',o1',o2',o3',r3⟩,rows3,hR3,er3⟩
    have b7 : B[h.length + 7]? = some (some (rec_ .busy none)) := kB0B.at_ _ _ (by simp; omega) (by rw [eB0,List.getElem?_set_self l7])
    have h7n : h.length + 7 ∉ iu :: C := fun hc => by have := hCl _ hc; omega
    have h1n : h.length + 1 ∉ iu :: C := fun hc => by have := hCl _ hc; omega
    have d7 : H3[h.length + 7]? = some (some (rec_ .busy none)) := k3.at_ _ _ h7n b7
    have b1 : H3[h.length + 1]? = some (some (.row [.bool false])) := k3.at_ _ _ h1n (kB0B.at_ _ _ (by simp; omega) (kHB.at_ _ _ (by simp) h1))
    have l3 := aF d7
    have kH23 : Keep C' H2 H3 := ((show Keep [h.length + 7] H2 B0 by rw [eB0]; exact hHA.toK.set (.inl (by simp))).more (by simp [h7C])).trans ((kB0B.more (by simp [hiC'])).trans (k3.more hsub'))
    have kH3 : Keep C' H H3 := (t2.more (by simp)).trans kH23
    have hRn : URow C' H3 iu d.planes.length u rows3 := hR1.back hR3 (fun j hj => by
     rw [er3 j (by omega),List.getElem?_set_ne (by omega)]) (kH3.msk fun i hi => .inl hi)
    have er3' : ∀ j,j < u.length → rows3[j]? = rows[j]? := fun j hj => by
     rw [er3 j (by omega),List.getElem?_set_ne (by omega),er1 j hj]
    simp only [erec] at d7
    rcases r3 with ⟨rfl,it3⟩ | ⟨rfl,kk3⟩
    · simp only [go_sem,d7]
      obtain ⟨F,eF⟩ : ∃ F,F = H3.set (h.length + 7) (some (rec_ .ready none)) := ⟨_,rfl⟩
      have eF' := eF
      simp only [erec] at eF'
      rw [← eF',List.append_nil]
      have kF : Keep [h.length + 7] H3 F := by rw [eF]; exact Keep.refl.set (.inl (by simp))
      have h7O : h.length + 7 ∈ O' := o3' _ hb7
      refine ⟨kH23.trans (kF.more (by simp [h7C])),.inl ?_⟩
      refine ihl O' F (fun y hy => hl y (List.mem_cons_of_mem _ hy)) (fun c hc => by
       rcases o1' c hc with h2 | h2
       · exact hO1 c h2
       · have := khB.le; have := kB0B.le; exact .inr (by omega)) (fun c hc => by rw [eF,List.length_set]; exact o2' c hc) (fun c hc => o3' c (hu1 c hc)) (o3' _ hb1) h7O (kG.trans (kH3.trans (kF.more (by simp [h7C])))) ?_ ?_ ⟨rows3,?_,er3'⟩ (it3.keep (kF.more (by simp [h7O])))
      · rw [eF,List.getElem?_set_self l3]
      · exact kF.at_ _ _ (by simp) b1
      · exact hRn.remask (by rw [eF,List.getElem?_set_ne (by omega)]) (kF.msk fun i hi => .inl (by simp at hi; subst hi; exact h7C))
    · have d7' : (H3.set (h.length + 1) (some (.row [.bool false])))[h.length + 7]? = some (some (rec_ .busy none)) := by rw [List.getElem?_set_ne (by omega)]; simp only [erec]; exact d7
      simp only [erec] at d7'
      simp only [go_sem,d7',b1]
      obtain ⟨F,eF⟩ : ∃ F,F = (H3.set (h.length + 1) (some (.row [.bool false]))).set (h.length + 7) (some (rec_ .done (some .ret))) := ⟨_,rfl⟩
      have eF' := eF
      simp only [erec] at eF'
      rw [← eF',List.append_nil]
      have kF : Keep [h.length + 1,h.length + 7] H3 F := by rw [eF]; exact (Keep.refl.set (.inl (by simp))).set (.inl (by simp))
      refine ⟨kH23.trans (kF.more (by simp [h7C,h1C])),.inr fun H4 k4 => ?_⟩
      have f7 : F[h.length + 7]? = some (some (rec_ .done (some .ret))) := by rw [eF,List.getElem?_set_self (by rw [List.length_set]; exact l3)]
      have f1 : F[h.length + 1]? = some (some (.row [.bool false])) := by rw [eF,List.getElem?_set_ne (by omega),List.getElem?_set_self (by omega)]
      have j7 := k4.at_ _ _ (by simp) f7
      have j1 : (H4.set (h.length + 7) none)[h.length + 1]? = some (some (.row [.bool false])) := by rw [List.getElem?_set_ne (by omega)]; exact k4.at_ _ _ (by simp) f1
      simp only [eKF,j7,erec]
      simp only [go_sem,j1]
      have k34 : Keep [h.length + 1,h.length + 7] H3 (H4.set (h.length + 7) none) := (kF.trans (k4.more (by simp))).set (.inl (by simp))
      have k0 : Keep C' h (H4.set (h.length + 7) none) := (((aC.toK hhG).trans kG).trans kH3).trans (k34.more (by simp [h7C,h1C]))
      have kO : Keep O' H3 (H4.set (h.length + 7) none) := k34.more (by simp [o3' _ hb7,o3' _ hb1])
      refine ⟨k0.old hC'h,⟨O',fun c hc => ?_,fun c hc => ?_,fun c hc => o3' c (hu1 c hc),.inr ⟨rfl,fun H5 k5 => kk3 _ (kO.trans k5)⟩⟩,rows3,?_,er3'⟩
      · rcases o1' c hc with h2 | h2
        · exact hO1 c h2
        · have := khB.le; have := kB0B.le; exact .inr (by omega)
      · have h2 := o2' c hc
        have h3 := k34.le
        rw [List.length_set] at h3
        omega
      · have hRf : URow C' (H4.set (h.length + 7) none) iu d.planes.length u rows3 := hRn.keep k34 (by simp; omega) fun i hi => .inl (by simp at hi; rcases hi with rfl | rfl; exact h1C; exact h7C)
        exact hRf.remask rfl (jL hsub')
  exact claim fl ((h.length + 7) :: (h.length + 1) :: O) G hfl (fun i hi => by rcases List.mem_cons.1 hi with rfl | hi; exact .inr (by omega); rcases List.mem_cons.1 hi with rfl | hi; exact .inr (by omega); exact .inl hi)
   (fun i hi => by rcases List.mem_cons.1 hi with rfl | hi; omega; rcases List.mem_cons.1 hi with rfl | hi; omega; have := hOl i hi; omega) (fun i hi => by simp [hi]) (by simp) (by simp) Keep.refl g7 g1 ⟨rows,hR.remask (by rw [eG,List.getElem?_append_left hiu]) hsC,fun _ _ => rfl⟩
   (hI.grow hhG.toK fun i hi => by rcases List.mem_cons.1 hi with rfl | hi; exact .inr (by omega); rcases List.mem_cons.1 hi with rfl | hi; exact .inr (by omega); exact .inl hi)
end Go.Proofs.Ab
namespace Go.Proofs.Ab
open Go Go.Proofs
variable {w0 : World} {h : Heap}
attribute [local irreducible] ACall aS aV aM aP rvC rdC lp rg dr ex un rv rd'
theorem wB (c : List AV) : ∀ n,fH c n = (List.replicate n c).flatten
 | 0 => rfl
 | n + 1 => by rw [aBr,wB c n,List.replicate_succ,List.flatten_cons]
theorem aB7 (C : List Nat) (d : aO) (v : cJ) (m : AV) (i : Nat) (s : aB) (sv : StV) (op : Int) (q bd bs bo : Nat) (K : Heap → Prop) (sk : mD d s) (ps : ∀ p ∈ d.planes,0 ≤ p.seats ∧ p.seats ≤ 1000) (hp0 : 0 < d.places.length) (o1 : 0 ≤ op) (o2 : op < 2 ^ 50)
 (hCl : ∀ i ∈ C,i < h.length) (b1 : (msk C h)[bd]? = some (some (.row [.ptr (.own i 0)]))) (b2 : (msk C h)[bs]? = some (some (.row (stC sv)))) (b3 : (msk C h)[bo]? = some (some (.row [.int .i64 op]))) (hD : pC w0 (msk C h) d v m i) (hs : StS w0 (msk C h) s sv)
 (hI : fF Try.prog w0 q C (UnYV w0 C) (fun _ => True) K (dA d s op) [] h) : ACall Try.prog w0 123 [.yld q,.ptr (.own bd 0),.ptr (.own bs 0),.ptr (.own bo 0)] h fun _ H => K H := by
 refine bM aK aFm aID aIC (Nat.le_of_ble_eq_true rfl) fun hb ha => aX ?_
 have un1 := cK (ms := C) (A := h)
 have c1 : ∀ L,(h ++ L)[bd]? = some (some (.row [.ptr (.own i 0)])) := fun L => aA (un1.2 _ _ b1)
 have ci : ∀ L,(h ++ L)[i]? = some (some (.row (bA v ++ [m]))) := fun L => aA (un1.2 _ _ hD.hd)
 have lnp : fA v.pn = some (.int .i64 d.planes.length) := by simpa using hD.R.planes.use.1
 have dpl := hD.pl
 have hP40 : d.planes.length * (32 + 1) ≤ 2 ^ 40 := by omega
 simp only [go_sem,mf123,c1,ci,lnp]
 refine ⟨by omega,?_⟩
 obtain ⟨b,eb⟩ : ∃ b : PlB,b = ⟨h.length + 2,bd,bs,bo,h.length,h.length + 3⟩ := ⟨_,rfl⟩
 have eargs : [AV.ptr (Pl.own (h.length + 2) 0),AV.ptr (Pl.own bd 0),AV.ptr (Pl.own bs 0),AV.ptr (Pl.own bo 0),AV.ptr (Pl.own h.length 0),AV.ptr (Pl.own (h.length + 3) 0)] = b.args := by rw [eb]; rfl
 rw [eargs,beq_self_eq_true,wB]
 obtain ⟨H,eH⟩ : ∃ H,H = h ++ [some (Blk.row [.yld q]),some (Blk.row (List.replicate d.planes.length [AV.int .i64 0,.nilS]).flatten),some (Blk.row [.sl (.own (h.length + 1) 0) d.planes.length 2 true]),some (Blk.row [.fn (.func 124) [] b.args])] := ⟨_,rfl⟩
 rw [← eH]
 have hhH : aC h H := by rw [eH]; exact aC.refl.app
 have hl : H.length = h.length + 4 := by rw [eH]; simp
 have hnC : ∀ c,h.length ≤ c → c ≠ h.length + 1 → c ∉ (h.length + 1) :: C := fun c h1 h2 hc => by
  rcases List.mem_cons.1 hc with h3 | h3
  · exact h2 h3
  · have := hCl _ h3; omega
 have hsC : aC (msk C h) (msk ((h.length + 1) :: C) H) := (aC.toK (C := []) hhH).mskm (by simp) fun c hc => by
  rcases List.mem_cons.1 hc with h3 | h3
  · exact .inr (by omega)
  · exact .inl h3
 have hP : PlI w0 ((h.length + 1) :: C) d v m i s sv op q (h.length + 1) b H := by
  have hb' : ∀ x,b.args = x → b.args = x := fun _ e => e
  rw [eb]
  refine ⟨?_,hsC.2 _ _ b1,hsC.2 _ _ b2,hsC.2 _ _ b3,?_,?_,hD.sub hsC,hs.sub hsC⟩
  · simp only; rw [bI (hnC _ (by omega) (by omega)),eH]; simp
  · simp only; rw [bI (hnC _ (by omega) (by omega)),eH]; simp
  · simp only; rw [bI (hnC _ (by omega) (by omega)),eH,← eb]; simp
 have hR : URow ((h.length + 1) :: C) H (h.length + 1) d.planes.length [] (List.replicate d.planes.length [AV.int .i64 0,.nilS]) :=
  ⟨by rw [eH]; simp,by simp,fun c hc => by rw [(List.mem_replicate.1 hc).2]; rfl,fun c hc => by rw [(List.mem_replicate.1 hc).2]; rfl,fun j x hx => by simp at hx⟩
 have hc := unit_c C d v m i s sv op q (h.length + 1) b K sk ps hp0 o1 o2 (fun hc => by have := hCl _ hc; omega) d.planes.length 0 [] [] _ [h.length + 1] H (fun c hc => by rcases List.mem_cons.1 hc with h3 | h3; omega; have := hCl _ h3; omega) (by simp; omega) (by simp) (by simp) (by omega) (by simp) hP hR
  (by rw [List.append_nil]; exact hI.grow hhH.toK (by simp))
 refine aW (ACall.vc (first := []) (args := [_,_]) (by simpa using hc)) ?_
 rintro y H3 ⟨k3,⟨O',_,_,_,r3⟩,_⟩
 simp only [go_sem]
 rcases r3 with ⟨_,r3⟩ | ⟨_,r3⟩
 · exact r3 _ Keep.refl
 · exact r3 _ Keep.refl
theorem zD (i : Nat) (sv : StV) (op : Int) (o1 : one sv.pl = true ∧ cellsOf sv.pl = some [sv.pl]) (o2 : one sv.le = true ∧ cellsOf sv.le = some [sv.le]) (o3 : one sv.pe = true ∧ cellsOf sv.pe = some [sv.pe]) :
 aM Try.prog w0 80 [.ptr (.own i 0),.agg (stC sv),.int .i64 op] h
  (.fn (.func 123) [] [.ptr (.own h.length 0),.ptr (.own (h.length + 1) 0),.ptr (.own (h.length + 2) 0)])
  (h ++ [some (.row [.ptr (.own i 0)]),some (.row (stC sv)),some (.row [.int .i64 op])]) := by
 refine nX aK aHG mf80_b mf80_g (Nat.le_of_ble_eq_true rfl) (by simp [AV.bdd,AV.bdds,Pl.bdd]) (fun hb => ?_) fun hb ha => aX ?_
 · simp only [AV.bdds,AV.bdd,Pl.bdd,stC] at hb
   obtain ⟨h1,⟨h2,h3,h4,_⟩,_⟩ := hb
   simp [bL,bR,cA,cH,cT,bT,AV.bdds,AV.bdd,Pl.bdd,bC,stC]
   exact ⟨by omega,AV.bdd_mono (by omega) _ h2,AV.bdd_mono (by omega) _ h3,AV.bdd_mono (by omega) _ h4⟩
 · simp only [go_sem,mf80,o1.2,o2.2,o3.2,o1.1,o2.1,o3.1]
end Go.Proofs.Ab
namespace Go.Proofs.Ab
open Go Go.Proofs
variable {w0 : World} {h : Heap}
attribute [local irreducible] ACall aS aV aM aP rvC rdC lp rg dr ex un rv rd'
structure gA (d : aO) : Prop where
 p0 : 1 ≤ d.places.length
 p1 : d.places.length ≤ 5
 ln : d.links.length ≤ 20
 pn : d.planes.length ≤ 2
 pe : d.people.length ≤ 4
 w0 : 1 ≤ d.weathers.length
 w1 : d.weathers.length ≤ 6
 planes : ∀ p ∈ d.planes,(0 ≤ p.at_ ∧ p.at_ < d.places.length) ∧ (0 ≤ p.home ∧ p.home < d.places.length) ∧ (0 ≤ p.seats ∧ p.seats ≤ 20) ∧ (0 ≤ p.duty ∧ p.duty ≤ 20) ∧ (0 ≤ p.away ∧ p.away ≤ 1000000)
 people : ∀ p ∈ d.people,(0 ≤ p.at_ ∧ p.at_ < d.places.length) ∧ (0 ≤ p.to ∧ p.to < d.places.length) ∧ (1 ≤ p.seats ∧ p.seats ≤ 20) ∧ (0 ≤ p.strand ∧ p.strand ≤ 1000000) ∧ (0 ≤ p.lodged ∧ p.lodged ≤ 1000000)
 s0 : 1 ≤ aT d
 s1 : aT d ≤ 5
 rows : ∀ w ∈ d.weathers,w.length = aT d ∧ ∀ x ∈ w,0 ≤ x ∧ x < 2 ^ 5
 berths : ∀ p ∈ d.places,0 ≤ p.berths ∧ p.berths ≤ 2
theorem oN {n : Nat} {x : Int} : cI n x = true ↔ 0 ≤ x ∧ x < n := by simp only [cI,inB,Bool.and_eq_true,decide_eq_true_eq]; omega
theorem lZ {d : aO} (e : fC d = true) : gA d := by
 simp only [fC,Bool.and_eq_true,decide_eq_true_eq,List.all_eq_true] at e
 obtain ⟨e1,e2,e3,e4,e5,e6,e7,_,e9,e10⟩ := e
 simp only [inB,Bool.and_eq_true,decide_eq_true_eq] at e1 e5
 have hw : ∀ w ∈ d.weathers,(1 ≤ w.length ∧ w.length ≤ 5) ∧ w.length = aT d ∧ ∀ x ∈ w,0 ≤ x ∧ x < 2 ^ 5 := fun w hw => by
  have := e9 w hw
  simp only [eE,inB,sU,Bool.and_eq_true,decide_eq_true_eq,List.all_eq_true] at this
  refine ⟨by omega,this.2.1,fun x hx => ?_⟩
  have h1 := this.2.2 x hx
  have h2 : 2 ^ d.places.length ≤ 2 ^ 5 := Nat.pow_le_pow_right (by omega) (by omega)
  have h3 : ((2 ^ 5 : Nat) : Int) = 2 ^ 5 := by norm_cast
  omega
 have hs : 1 ≤ aT d ∧ aT d ≤ 5 := by
  cases ew : d.weathers with
  | nil => rw [ew] at e5; simp at e5
  | cons a b =>
   have := hw a (by rw [ew]; simp)
   have ha : aT d = a.length := by simp [aT,ew]
   omega
 refine ⟨by omega,by omega,e2,e3,e4,by omega,by omega,fun p hp => ?_,fun p hp => ?_,hs.1,hs.2,fun w hw' => (hw w hw').2,fun p hp => ?_⟩
 · have := e6 p hp
   simp only [dN,Bool.and_eq_true,oN,inB,decide_eq_true_eq] at this
   omega
 · have := e7 p hp
   simp only [dJ,Bool.and_eq_true,oN,inB,decide_eq_true_eq] at this
   omega
 · obtain ⟨j,hj,rfl⟩ := List.mem_iff_getElem.1 hp
   have := e10 j (List.mem_range.2 hj)
   rw [aH hj] at this
   simp only [mB,inB,Bool.and_eq_true,decide_eq_true_eq] at this
   omega
def GrI (H : Heap) (N : Nat) (v : AV) (l : List Int) : Prop := (l = [] ∧ v = .nilS) ∨ (l ≠ [] ∧ ∃ id,N ≤ id ∧ v = .sl (.own id 0) l.length 1 false ∧ H[id]? = some (some (.row (aQ l))))
theorem GrI.n {H : Heap} {N : Nat} {v : AV} {l : List Int} (a : GrI H N v l) : SlN H v l := by
 rcases a with a | ⟨a,id,_,e1,e2⟩
 · exact .inl a
 · exact .inr ⟨a,id,false,e1,e2⟩
theorem GrI.keep {C : List Nat} {H H' : Heap} {N : Nat} {v : AV} {l : List Int} (a : GrI H N v l) (t : Keep C H H') (hC : ∀ c ∈ C,c < N) : GrI H' N v l := by
 rcases a with a | ⟨a,id,e0,e1,e2⟩
 · exact .inl a
 · exact .inr ⟨a,id,e0,e1,t.at_ _ _ (fun hc => by have := hC _ hc; omega) e2⟩
theorem GrI.add {H : Heap} {N : Nat} {v : AV} {l : List Int} (a : GrI H N v l) (hN : N ≤ H.length) (x : Int) (k : Nat) (hk : H[k]? = some (some (.row [.int .i64 x]))) (hl : l.length < 1000000) :
 ∃ v' H',(∀ f,fM w0 H 1 8 v (.sl (.own k 0) 1 1 f) = some (v',H')) ∧ GrI H' N v' (l ++ [x]) ∧ H.length ≤ H'.length ∧ (∀ (i : Nat) b,i < N → H[i]? = some b → H'[i]? = some b) ∧ one v' = true := by
 have hr : rdn w0 H (.own k 0) (1 * 1) = some [.int .i64 x] := by simp [rdn,hk]
 rcases a with ⟨rfl,rfl⟩ | ⟨hl0,id,hid,rfl,h2⟩
 · refine ⟨.sl (.own H.length 0) 1 1 false,H ++ [some (.row [.int .i64 x])],fun f => by simp [fM,srcOf,eD,hr,jR,one],.inr ⟨by simp,H.length,hN,by simp,by simp [aQ]⟩,by simp,fun i b hi e => by rw [List.getElem?_append_left (by omega)]; exact e,rfl⟩
 · have hr2 : rdn w0 H (.own id 0) (l.length * 1) = some (aQ l) := by
    simp only [rdn,h2]
    rw [if_pos (by simp)]
    simp [List.take_of_length_le]
   rw [Nat.mul_one] at hr2
   have hil := aF h2
   have hb : (l.length + 1) * (8 + 1) ≤ 2 ^ 40 := by omega
   refine ⟨.sl (.own H.length 0) (l.length + 1) 1 false,H.set id none ++ [some (.row (aQ (l ++ [x])))],fun f => ?_,.inr ⟨by simp,H.length,hN,by simp,by simp⟩,by simp,fun i b hi e => by rw [List.getElem?_append_left (by rw [List.length_set]; omega),List.getElem?_set_ne (by omega)]; exact e,rfl⟩
   simp [fM,srcOf,eD,hr,one,hr2]
   refine ⟨by omega,?_⟩
   simp [aQ]
theorem aBV {a b : Nat} (ha : a < 2 ^ 62) (hb : b < 2 ^ 62) : bin .andNot (.int .i64 (a : Int)) (.int .i64 (b : Int)) = some (.int .i64 ((a ^^^ (a &&& b) : Nat) : Int)) := by
 have h1 : a ^^^ (a &&& b) < 2 ^ 62 := Nat.xor_lt_two_pow ha (Nat.lt_of_le_of_lt Nat.and_le_left ha)
 simp only [bin,if_true,iY,lK]
 have e : (BitVec.ofInt IntKind.i64.bits (a : Int) &&& ~~~BitVec.ofInt IntKind.i64.bits (b : Int)) = BitVec.ofInt IntKind.i64.bits (a : Int) ^^^ (BitVec.ofInt IntKind.i64.bits (a : Int) &&& BitVec.ofInt IntKind.i64.bits (b : Int)) := by
  ext i
  simp only [BitVec.getElem_and,BitVec.getElem_not,BitVec.getElem_xor]
  cases (BitVec.ofInt IntKind.i64.bits (a : Int))[i] <;> cases (BitVec.ofInt IntKind.i64.bits (b : Int))[i] <;> rfl
 rw [e,show (BitVec.ofInt IntKind.i64.bits (a : Int) ^^^ (BitVec.ofInt IntKind.i64.bits (a : Int) &&& BitVec.ofInt IntKind.i64.bits (b : Int))).toNat = a ^^^ (a &&& b) by
  rw [BitVec.toNat_xor,BitVec.toNat_and,BitVec.ofInt_natCast,BitVec.ofInt_natCast,BitVec.toNat_ofNat,BitVec.toNat_ofNat,Nat.mod_eq_of_lt,Nat.mod_eq_of_lt]
  · simp [IntKind.bits]; omega
  · simp [IntKind.bits]; omega]
 rw [pE h1]
theorem rC {d : aO} {left slot w : Nat} : ∀ v,dP d left slot w v < 2 ^ v
 | 0 => by simp [dP]
 | v + 1 => by
  have ih := rC (d := d) (left := left) (slot := slot) (w := w) v
  have h2 : 2 ^ v < 2 ^ (v + 1) := Nat.pow_lt_pow_right (by omega) (by omega)
  rw [dP]
  split
  · exact Nat.or_lt_two_pow (Nat.lt_trans ih h2) h2
  · exact Nat.lt_trans ih h2
theorem lW {d : aO} {ws slot k : Nat} (hw : ws < 2 ^ k) : ∀ n,(bU d ws slot n).1 < 2 ^ k ∧ (bU d ws slot n).2.length ≤ n
 | 0 => ⟨hw,Nat.le_refl _⟩
 | n + 1 => by
  have ih := lW (d := d) (slot := slot) hw n
  rw [bU]
  split
  · exact ⟨Nat.xor_lt_two_pow ih.1 (Nat.lt_of_le_of_lt Nat.and_le_left ih.1),by simp; exact ih.2⟩
  · exact ⟨ih.1,by omega⟩
theorem tN {d : aO} {w t : Nat} (hw : w < d.weathers.length) (ht : t < d.weathers[w].length) : wAt d w t = d.weathers[w][t] := by rw [wAt,aH hw,aH ht]
theorem aAl (d : aO) (v : cJ) (m : AV) (i ws slot : Nat) (hD : pC w0 h d v m i) (dg : gA d) (hs : slot < aT d) (hws : ws < 2 ^ 50) :
 ACall Try.prog w0 78 [.ptr (.own i 0),.int .i64 (ws : Int),.int .i64 (slot : Int)] h fun y H => aC h H ∧ GrI H h.length y ((bW d ws slot).map Int.ofNat) := by
 refine bM aK aHI mf78_b mf78_g (Nat.le_of_ble_eq_true rfl) fun hb ha => aX ?_
 have ci : ∀ L,(h ++ L)[i]? = some (some (.row (bA v ++ [m]))) := fun L => aA hD.hd
 have ln5 : fA v.we = some (.int .i64 d.weathers.length) := by obtain ⟨rows,h1,h2,_⟩ := hD.R.weathers; rw [← h1]; exact h2.use.1
 have w1 := dg.w1
 have sl := dg.s1
 rw [← List.append_nil h]
 simp only [go_sem,mf78,ci,ln5]
 rw [List.append_nil]
 refine eL (S := Heap × AV) (fun w st => [(0,.ptr (.own i 0)),(2,.int .i64 (slot : Int)),(7,st.2),(8,.int .i64 ((bU d ws slot w).1 : Int)),(18,.int .i64 (d.weathers.length : Int)),(19,.int .i64 (w : Int))]) (fun _ st => st.1)
  (fun w st => aC h st.1 ∧ GrI st.1 h.length st.2 ((bU d ws slot w).2.map Int.ofNat)) d.weathers.length (h,.nilS) ⟨aC.refl,.inl ⟨rfl,rfl⟩⟩ rfl rfl (fun w st hw I ih => ?_) (fun st I => ?_)
 · obtain ⟨H,ov⟩ := st
   obtain ⟨hH,hO⟩ := I
   simp only at hH hO ih ⊢
   refine aE aK aC0 [0,2,7,8,18,19] L78_1.eq_1 ?_
   have hlt := lW (d := d) (slot := slot) hws w
   obtain ⟨left,eleft⟩ : ∃ left,left = (bU d ws slot w).1 := ⟨_,rfl⟩
   rw [← eleft] at hlt ⊢
   have l62 : left < 2 ^ 62 := by omega
   have e1 : (w : Int) < d.weathers.length := by omega
   have s1 := iT (a := left) (n := w) (by omega)
   have s2 := iZ (a := left / 2 ^ w) (Nat.lt_of_le_of_lt (Nat.div_le_self _ _) l62)
   have ci2 := hH.2 _ _ hD.hd
   have hz : ∀ a n : Nat,(((a / 2 ^ n % 2 : Nat) : Int) == 0) = !aZ a n := fun a n => by
    unfold aZ
    rcases Nat.mod_two_eq_zero_or_one (a / 2 ^ n) with e | e <;> rw [e] <;> rfl
   cases hbit : aZ left w with
   | false =>
    simp only [go_sem,e1,s1,s2,hz,hbit]
    refine ⟨(by unfold I64; omega),?_⟩
    have := ih (H,ov) ⟨hH,by rw [bU]; simp only [← eleft,hbit]; simpa using hO⟩
    rw [bU] at this
    simp only [← eleft,hbit] at this
    simpa [eleft] using this
   | true =>
    simp only [go_sem,e1,s1,s2,hz,hbit,ci2,ln5]
    have hW : LI w0 H v.we d.weathers := (hD.R.weathers).sub hH
    have row : ∀ j,j < d.weathers.length → ∃ (p q : Pl) (x : AV),cB 1 v.we (some j) = some (.ptr p) ∧ rd w0 H p = some x ∧ cB 1 x (some slot) = some (.ptr q) ∧ rd w0 H q = some (.int .i64 (wAt d j slot)) := fun j hj => by
     obtain ⟨p,x,p1,p2,p3⟩ := hW.at_ hj
     obtain ⟨_,q,qi,qr⟩ := SlI.use p3
     have hl : slot < d.weathers[j].length := by rw [(dg.rows _ (List.getElem_mem hj)).1]; exact hs
     have h1 := p2 []
     have h2 := qr slot hl []
     rw [List.append_nil] at h1 h2
     exact ⟨p,q.add slot,x,p1,h1,qi slot hl,by rw [tN hj hl]; exact h2⟩
    obtain ⟨r1,r2,rx,r3,r4,r5,r6⟩ := row w hw
    have hgl := fun n => rC (d := d) (left := left) (slot := slot) (w := w) n
    have hg6 : ∀ n,n ≤ 6 → dP d left slot w n < 2 ^ 6 := fun n hn => Nat.lt_of_lt_of_le (hgl n) (Nat.pow_le_pow_right (by omega) hn)
    refine eL (S := Unit) (fun n _ => [(0,.ptr (.own i 0)),(2,.int .i64 (slot : Int)),(7,ov),(8,.int .i64 (left : Int)),(9,.int .i64 (w : Int)),(10,.int .i64 (dP d left slot w n : Int)),(18,.int .i64 (d.weathers.length : Int)),(19,.int .i64 (w : Int)),(32,.int .i64 (d.weathers.length : Int)),(33,.int .i64 (n : Int))]) (fun _ _ => H) (fun _ _ => True) d.weathers.length () trivial rfl rfl (fun n _ hn _ ih2 => ?_) (fun _ _ => ?_)
    · refine aE aK aC1 [0,2,7,8,9,10,18,19,32,33] L78_0.eq_1 ?_
      have e2 : (n : Int) < d.weathers.length := by omega
      have s3 := iT (a := left) (n := n) (by omega)
      have s4 := iZ (a := left / 2 ^ n) (Nat.lt_of_le_of_lt (Nat.div_le_self _ _) l62)
      obtain ⟨q1,q2,qx,q3,q4,q5,q6⟩ := row n hn
      have s5 := nH (n := n) (by omega)
      have hg := hg6 n (by omega)
      have hn6 : 2 ^ n < 2 ^ 62 := Nat.pow_lt_pow_right (by omega) (by omega)
      have s6 := aGr (a := dP d left slot w n) (b := 2 ^ n) (by omega) hn6
      have ih2 := ih2 () trivial
      rw [dP] at ih2
      cases hb2 : aZ left n with
      | false =>
       rw [hb2] at ih2
       simp only [go_sem,e2,s3,s4,nF,hb2,ci2]
       exact ⟨(by unfold I64; omega),by simpa using ih2⟩
      | true =>
       by_cases heq : wAt d n slot = wAt d w slot
       · have heq' : (wAt d n slot == wAt d w slot) = true := by simp [heq]
         rw [hb2] at ih2
         simp only [heq,decide_true,Bool.and_self,if_true] at ih2
         simp only [go_sem,e2,s3,s4,nF,hb2,ci2,q3,q4,q5,q6,r3,r4,r5,r6,heq',s5,s6]
         exact ⟨(by unfold I64; omega),by simpa using ih2⟩
       · have heq' : (wAt d n slot == wAt d w slot) = false := by simp [heq]
         rw [hb2] at ih2
         simp only [heq,decide_false,Bool.and_false,Bool.false_eq_true,if_false] at ih2
         simp only [go_sem,e2,s3,s4,nF,hb2,ci2,q3,q4,q5,q6,r3,r4,r5,r6,heq']
         exact ⟨(by unfold I64; omega),by simpa using ih2⟩
    · refine aE aK aC1 [0,2,7,8,9,10,18,19,32,33] L78_0.eq_1 ?_
      have e2 : ¬ (d.weathers.length : Int) < d.weathers.length := by omega
      have hg := hg6 d.weathers.length (by omega)
      have s3 := aBV (a := left) (b := dP d left slot w d.weathers.length) l62 (by omega)
      obtain ⟨v',H',ap,g',gle,gk,go⟩ := (hO.keep (aC.refl.app (L := [some (.row [.int .i64 (dP d left slot w d.weathers.length : Int)])]) |>.toK (C := [])) (by simp)).add (w0 := w0) (by rw [List.length_append]; have := hH.1; omega) (dP d left slot w d.weathers.length : Int) H.length (by simp) (by simp; omega)
      simp only [go_sem,e2,s3,ap]
      refine ⟨(by unfold I64; omega),?_⟩
      have := ih (H',v') ⟨⟨by simp only; have := hH.1; simp at gle; omega,fun i b e => gk i _ (aF e) (aA (hH.2 i b e))⟩,by rw [bU]; simp only [← eleft,hbit,if_true,List.map_append]; exact g'⟩
      rw [bU] at this
      simp only [← eleft,hbit,if_true] at this
      simpa [eleft] using this
 · obtain ⟨H,ov⟩ := st
   obtain ⟨hH,hO⟩ := I
   simp only at hH hO ⊢
   refine aE aK aC0 [0,2,7,8,18,19] L78_1.eq_1 ?_
   have e1 : ¬ (d.weathers.length : Int) < d.weathers.length := by omega
   simp only [go_sem,e1]
   exact ⟨hH,hO⟩
end Go.Proofs.Ab
namespace Go.Proofs.Ab
open Go Go.Proofs
variable {w0 : World} {h : Heap}
attribute [local irreducible] ACall aS aV aM aP rvC rdC lp rg dr ex un rv rd'
def putL (c : List Int) (o : Nat) (l : List Int) : List Int := c.take o ++ l ++ c.drop (o + l.length)
theorem zI (c : List Int) (o : Nat) (l : List Int) : cG (aQ c) o (aQ l) = aQ (putL c o l) := by
 simp [cG,putL,aQ,List.map_take,List.map_drop]
theorem iV {c : List Int} {o : Nat} {l : List Int} (h : o + l.length ≤ c.length) : (putL c o l).length = c.length := by
 simp [putL]; omega
theorem uV {H : Heap} {id o n : Nat} {c l : List Int} {v : AV} {f : Bool} (hid : H[id]? = some (some (.row (aQ c)))) (hv : SlI w0 H v l) (hl : l.length ≤ n) (ho : o + l.length ≤ c.length) :
 qM w0 H 1 (.sl (.own id o) n 1 f) v = some (.int .i64 (l.length : Int),H.set id (some (.row (aQ (putL c o l))))) := by
 have hlen : qZ v = some l.length := by
  rcases hv with ⟨rfl,e⟩ | ⟨p,full,⟨es',rfl,_⟩,_,_⟩
  · have : l = [] := by simpa using e
    subst this; rfl
  · simp [qZ]
 have hmin : min l.length n = l.length := by omega
 by_cases hl0 : l = []
 · subst hl0
   have : putL c o [] = c := by simp [putL]
   rw [this,pJ hid]
   simp only [qM,hlen]
   simp [qZ]
 · have hne : l.length ≠ 0 := fun e => hl0 (List.eq_nil_of_length_eq_zero e)
   have hsrc : sY w0 H 1 l.length v = some (aQ l) := by
    rcases hv with ⟨_,e⟩ | ⟨p,full,⟨es',rfl,he⟩,_,hr⟩
    · exact absurd (by simpa using e) hl0
    · have hall := Sl.all (w0 := w0) (H := H) (es := 1) (p := p) (rows := l.map fun z => [AV.int .i64 z]) (by simpa using hl0) hr
      rw [← fU,List.length_map] at hall
      simp only [sY,he,if_true]; exact hall
   have h1 : qZ (.sl (.own id o) n 1 f) = some n := rfl
   unfold qM
   rw [h1,hlen]
   simp only [Option.bind_some]
   rw [hmin,if_neg hne,hsrc]
   simp only [Option.bind_some,mU,hid,and_self,if_true]
   rw [if_pos (by simp; omega),zI]
def rB (slot ws : Nat) (s : aB) : List Int := putL (putL (putL [(slot : Int),(ws : Int),0,0,0,0,0,0,0,0] 2 s.planes) 4 s.legs) 6 s.people
theorem aAh {slot ws : Nat} {s : aB} (h1 : s.planes.length ≤ 2) (h2 : s.legs.length ≤ 2) (h3 : s.people.length ≤ 4) : (rB slot ws s).length = 10 := by
 unfold rB
 have a1 := iV (c := [(slot : Int),(ws : Int),0,0,0,0,0,0,0,0]) (o := 2) (l := s.planes) (by simp; omega)
 have a2 := iV (c := putL [(slot : Int),(ws : Int),0,0,0,0,0,0,0,0] 2 s.planes) (o := 4) (l := s.legs) (by rw [a1]; simp; omega)
 have a3 := iV (c := putL (putL [(slot : Int),(ws : Int),0,0,0,0,0,0,0,0] 2 s.planes) 4 s.legs) (o := 6) (l := s.people) (by rw [a2,a1]; simp; omega)
 rw [a3,a2,a1]; rfl
theorem node_c (i slot ws : Nat) (s : aB) (sv : StV) (hs : StS w0 h s sv) (h1 : s.planes.length ≤ 2) (h2 : s.legs.length ≤ 2) (h3 : s.people.length ≤ 4) :
 aM Try.prog w0 122 [.ptr (.own i 0),.int .i64 (slot : Int),.int .i64 (ws : Int),.agg (stC sv)] h (.agg (aQ (rB slot ws s))) h := by
 refine aL aK aFn aIF aIE (Nat.le_of_ble_eq_true rfl) (by simp [AV.bdd,AV.bdds]) fun hb ha => aX ?_
 have p1 := Sl.one hs.planes.s
 have p2 := Sl.one hs.legs.s
 have p3 := Sl.one hs.people.s
 have a1 := iV (c := [(slot : Int),(ws : Int),0,0,0,0,0,0,0,0]) (o := 2) (l := s.planes) (by simp; omega)
 have a2 := iV (c := putL [(slot : Int),(ws : Int),0,0,0,0,0,0,0,0] 2 s.planes) (o := 4) (l := s.legs) (by rw [a1]; simp; omega)
 have a3 := iV (c := putL (putL [(slot : Int),(ws : Int),0,0,0,0,0,0,0,0] 2 s.planes) 4 s.legs) (o := 6) (l := s.people) (by rw [a2,a1]; simp; omega)
 have z : ∀ (c : List Int),c.length = 10 → (h ++ [some (Blk.row [sv.pl,sv.le,sv.pe]),some (Blk.row [.int .i64 0,.int .i64 0,.int .i64 0,.int .i64 0,.int .i64 0,.int .i64 0,.int .i64 0,.int .i64 0,.int .i64 0,.int .i64 0]),some (.row (aQ c))])[h.length + 2]? = some (some (.row (aQ c))) := fun c _ => by simp
 have q1 := fun f => uV (w0 := w0) (n := 2) (o := 2) (l := s.planes) (v := sv.pl) (f := f) (z [(slot : Int),(ws : Int),0,0,0,0,0,0,0,0] rfl) (Sl.app hs.planes.s) h1 (by simp; omega)
 have q2 := fun f => uV (w0 := w0) (n := 2) (o := 4) (l := s.legs) (v := sv.le) (f := f) (z (putL [(slot : Int),(ws : Int),0,0,0,0,0,0,0,0] 2 s.planes) a1) (Sl.app hs.legs.s) h2 (by rw [a1]; simp; omega)
 have q3 := fun f => uV (w0 := w0) (n := 4) (o := 6) (l := s.people) (v := sv.pe) (f := f) (z (putL (putL [(slot : Int),(ws : Int),0,0,0,0,0,0,0,0] 2 s.planes) 4 s.legs) (a2.trans a1)) (Sl.app hs.people.s) h3 (by rw [a2,a1]; simp; omega)
 have l1 : (aQ (putL [(slot : Int),(ws : Int),0,0,0,0,0,0,0,0] 2 s.planes)).length = 10 := by rw [qB,a1]; rfl
 have l2 : (aQ (putL (putL [(slot : Int),(ws : Int),0,0,0,0,0,0,0,0] 2 s.planes) 4 s.legs)).length = 10 := by rw [qB,a2,a1]; rfl
 have l3 : (aQ (putL (putL (putL [(slot : Int),(ws : Int),0,0,0,0,0,0,0,0] 2 s.planes) 4 s.legs) 6 s.people)).length = 10 := by rw [qB,a3,a2,a1]; rfl
 have e0 : [AV.int .i64 (slot : Int),.int .i64 (ws : Int),.int .i64 0,.int .i64 0,.int .i64 0,.int .i64 0,.int .i64 0,.int .i64 0,.int .i64 0,.int .i64 0] = aQ [(slot : Int),(ws : Int),0,0,0,0,0,0,0,0] := rfl
 simp only [go_sem,mf122,p1.1,p2.1,p3.1,p1.2,p2.2,p3.2]
 rw [e0]
 have t10 : List.take 10 (aQ (putL (putL (putL [(slot : Int),(ws : Int),0,0,0,0,0,0,0,0] 2 s.planes) 4 s.legs) 6 s.people)) = aQ (putL (putL (putL [(slot : Int),(ws : Int),0,0,0,0,0,0,0,0] 2 s.planes) 4 s.legs) 6 s.people) := List.take_of_length_le (by rw [l3]; exact Nat.le_refl _)
 simp only [go_sem,q1,q2,q3,l1,l2,l3,p1.1,p2.1,p3.1,mU,t10]
 simp only [List.append_nil,l3,t10]
 simp only [go_sem,l3,t10]
 rfl
end Go.Proofs.Ab
namespace Go.Proofs.Ab
open Go Go.Proofs
variable {w0 : World} {h : Heap}
attribute [local irreducible] ACall aS aV aM aP rvC rdC lp rg dr ex un rv rd'
structure StN (d : aO) (t : Nat) (s : aB) : Prop where
 s1 : s.planes.length = d.planes.length
 s2 : s.legs.length = d.planes.length
 s3 : s.people.length = d.people.length
 at_ : ∀ x ∈ s.planes,0 ≤ x ∧ x < d.places.length
 lg : ∀ x ∈ s.legs,0 ≤ x ∧ x ≤ t
 pat : ∀ x ∈ s.people,0 ≤ x ∧ x < d.places.length
theorem StN.ok {d : aO} {t : Nat} {s : aB} (a : StN d t s) (ht : t < 1000) : mD d s := ⟨a.s1,a.s2,a.s3,a.at_,fun x hx => by have := a.lg x hx; omega⟩
structure StM (d : aO) (t i : Nat) (s : aB) : Prop where
 s1 : s.planes.length = d.planes.length
 s2 : s.legs.length = d.planes.length
 s3 : s.people.length = d.people.length
 at_ : ∀ x ∈ s.planes,0 ≤ x ∧ x < d.places.length
 lg : ∀ (j : Nat) x,s.legs[j]? = some x → 0 ≤ x ∧ x ≤ t + 1 ∧ (i ≤ j → x ≤ t)
 pat : ∀ x ∈ s.people,0 ≤ x ∧ x < d.places.length
theorem aAt {P : Int → Prop} {to : Int} (hto : P to) : ∀ (l : List Int) (n : List Int),(∀ x ∈ n,P x) → (l.foldl (fun (l : List Int) (n : Int) => l.set n.toNat to) n).length = n.length ∧ ∀ x ∈ l.foldl (fun (l : List Int) (n : Int) => l.set n.toNat to) n,P x
 | [],n,h => ⟨rfl,h⟩
 | a :: l,n,h => by
  have := aAt hto l (n.set a.toNat to) fun x hx => by
   rcases List.mem_or_eq_of_mem_set hx with hx | rfl
   · exact h x hx
   · exact hto
  exact ⟨by rw [List.foldl_cons,this.1,List.length_set],this.2⟩
theorem aE1 {d : aO} {t i : Nat} {n : aB} {x : aD} (a : StM d t i n) (hx : rR d x) (h0 : 0 ≤ x.to) (hi : i < d.planes.length) : StM d t (i + 1) (mI n i x) := by
 have hf := aAt (P := fun y : Int => 0 ≤ y ∧ y < d.places.length) (to := x.to) ⟨h0,hx.hi⟩ x.people n.people a.pat
 refine ⟨by simp [mI,a.s1],by simp [mI,a.s2],by simp only [mI]; rw [hf.1,a.s3],fun y hy => ?_,fun j y hy => ?_,hf.2⟩
 · simp only [mI] at hy
   rcases List.mem_or_eq_of_mem_set hy with hy | rfl
   · exact a.at_ y hy
   · exact ⟨h0,hx.hi⟩
 · simp only [mI] at hy
   by_cases e : i = j
   · subst e
     rw [List.getElem?_set_self (by rw [a.s2]; exact hi)] at hy
     have hl : i < n.legs.length := by rw [a.s2]; exact hi
     rw [aH hl] at hy
     have := a.lg i _ (List.getElem?_eq_getElem hl)
     have h3 := this.2.2 (Nat.le_refl _)
     cases hy
     omega
   · rw [List.getElem?_set_ne e] at hy
     have := a.lg j y hy
     exact ⟨this.1,this.2.1,fun hj => this.2.2 (by omega)⟩
theorem yK {d : aO} {s : aB} {op : Int} {t : Nat} : ∀ (u : List aD) (i : Nat) (n : aB) (g : List Bool) (n' : aB),i + u.length ≤ d.planes.length → (∀ x ∈ u,rR d x) → StM d t i n → hZ d s op u i n g = .ok n' → StM d t (i + u.length) n'
 | [],i,n,g,n',_,_,a,e => by
  rw [hZ] at e; cases e; exact a
 | x :: u,i,n,g,n',hi,hu,a,e => by
  rw [hZ] at e
  have hsk : StM d t (i + 1) n := ⟨a.s1,a.s2,a.s3,a.at_,fun j y hy => ⟨(a.lg j y hy).1,(a.lg j y hy).2.1,fun hj => (a.lg j y hy).2.2 (by omega)⟩,a.pat⟩
  have hi' : i + 1 + u.length ≤ d.planes.length := by simp at hi; omega
  have hlen : i + (x :: u).length = i + 1 + u.length := by simp; omega
  rw [hlen]
  split at e
  · exact yK u (i + 1) n g n' hi' (fun y hy => hu y (List.mem_cons_of_mem _ hy)) hsk e
  · rename_i hneg
    split at e
    · cases e
    · exact yK u (i + 1) _ _ n' hi' (fun y hy => hu y (List.mem_cons_of_mem _ hy)) (aE1 a (hu x (by simp)) (by omega) (by simp at hi; omega)) e
theorem yM {d : aO} {s : aB} {op : Int} {t : Nat} {u : List aD} (hl : u.length = d.planes.length) (hu : ∀ x ∈ u,rR d x) (a : StN d t s) : StN d (t + 1) (dC d s op u).1 := by
 have hs : StN d (t + 1) s := ⟨a.s1,a.s2,a.s3,a.at_,fun x hx => ⟨(a.lg x hx).1,by have := (a.lg x hx).2; omega⟩,a.pat⟩
 rw [dC]
 split
 · exact hs
 · rename_i n e
   have := yK u 0 s _ n (by omega) hu ⟨a.s1,a.s2,a.s3,a.at_,fun j y hy => by have := a.lg y (List.mem_of_getElem? hy); exact ⟨this.1,by omega,fun _ => this.2⟩,a.pat⟩ e
   split
   · exact hs
   · refine ⟨this.s1,this.s2,this.s3,this.at_,fun x hx => ?_,this.pat⟩
     obtain ⟨j,hj,rfl⟩ := List.mem_iff_getElem.1 hx
     have := this.lg j _ (List.getElem?_eq_getElem hj)
     exact ⟨this.1,by have := this.2.1; omega⟩
theorem vP {d : aO} {s : aB} {op : Int} {t : Nat} (hd : d.people.length ≤ 4) (hp : 0 < d.places.length) (a : StN d t s) : ∀ (k gone : Nat) (u : List aD),u.length + k = d.planes.length → gone < 2 ^ 4 → (∀ x ∈ u,rR d x) →
 ∀ y ∈ cR d s op k gone u,y.1.length = d.planes.length ∧ (∀ x ∈ y.1,rR d x) ∧ (dC d s op y.1).2.1 = 1 ∧ y.2 = (dC d s op y.1).1
 | 0,gone,u,hk,_,hu,y,hy => by
  rw [cR] at hy
  split at hy
  · rename_i e
    simp at hy; subst hy
    exact ⟨by simpa using hk,hu,e,rfl⟩
  · cases hy
 | k + 1,gone,u,hk,hg,hu,y,hy => by
  rw [cR] at hy
  obtain ⟨x,hx,hy⟩ := List.mem_flatMap.1 hy
  have hok := sI hd hp hg x hx
  exact vP hd hp a k x.2 (u ++ [x.1]) (by simp; omega) hok.2 (fun z hz => by
   rcases List.mem_append.1 hz with hz | hz
   · exact hu z hz
   · simp at hz; subst hz; exact hok.1) y hy
theorem lE {d : aO} {s : aB} {op : Int} {t : Nat} (dg : gA d) (a : StN d t s) : ∀ y ∈ dA d s op,y.1.length = d.planes.length ∧ (∀ x ∈ y.1,rR d x) ∧ (dC d s op y.1).2.1 = 1 ∧ y.2 = (dC d s op y.1).1 :=
 vP dg.pe (by have := dg.p0; omega) a _ _ _ (by simp) (by omega) (by simp)
theorem vR {d : aO} {s : aB} {op : Int} {t : Nat} (dg : gA d) (a : StN d t s) {y : List aD × aB} (hy : y ∈ dA d s op) : StN d (t + 1) y.2 := by
 obtain ⟨h1,h2,_,h4⟩ := lE dg a y hy
 rw [h4]; exact yM h1 h2 a
theorem rO {g i : Nat} : aZ (g / 2) i = aZ g (i + 1) := by
 unfold aZ; rw [Nat.div_div_eq_div_mul,Nat.pow_succ,Nat.mul_comm]
theorem gR : ∀ (n g : Nat),(∃ w,w < n ∧ aZ g w = true) → aZ g (dR g n) = true ∧ (∀ i,i < dR g n → aZ g i = false) ∧ dR g n < n
 | 0,g,⟨w,hw,_⟩ => by omega
 | n + 1,g,⟨w,hw,hb⟩ => by
  rw [dR]
  cases h0 : aZ g 0 with
  | true => exact ⟨h0,fun i hi => by simp at hi,by simp⟩
  | false =>
   simp only [Bool.false_eq_true,if_false]
   have hw0 : w ≠ 0 := fun e => by rw [e,h0] at hb; cases hb
   obtain ⟨h1,h2,h3⟩ := gR n (g / 2) ⟨w - 1,by omega,by rw [rO,show w - 1 + 1 = w by omega]; exact hb⟩
   refine ⟨by rw [← rO]; exact h1,fun i hi => ?_,by omega⟩
   cases i with
   | zero => exact h0
   | succ i => rw [← rO]; exact h2 i (by omega)
theorem dD {g i : Nat} : aZ g i = g.testBit i := by
 unfold aZ
 rw [Nat.testBit_eq_decide_div_mod_eq]
theorem oS {d : aO} {left slot w : Nat} : ∀ n i,aZ (dP d left slot w n) i = (decide (i < n) && (aZ left i && decide (wAt d i slot = wAt d w slot)))
 | 0,i => by simp [dP,dD]
 | n + 1,i => by
  have ih := oS (d := d) (left := left) (slot := slot) (w := w) n i
  rw [dP]
  have hi : i < n + 1 ↔ i < n ∨ i = n := by omega
  by_cases e : i = n
  · subst e
    split
    · rename_i h
      rw [dD,Nat.testBit_or,← dD,ih]
      simp [Nat.testBit_two_pow_self,h]
    · rename_i h
      rw [ih]
      simp [Bool.not_eq_true] at h ⊢
      exact h
  · have : decide (i < n + 1) = decide (i < n) := by rw [decide_eq_decide]; omega
    rw [this]
    split
    · rw [dD,Nat.testBit_or,← dD,ih,Nat.testBit_two_pow_of_ne (by omega),Bool.or_false]
    · exact ih
theorem mW {d : aO} {ws slot : Nat} : ∀ n,n ≤ d.weathers.length → ∀ g ∈ (bU d ws slot n).2,(∃ w,w < d.weathers.length ∧ aZ g w = true) ∧ g < 2 ^ d.weathers.length
 | 0,_,g,hg => by simp [bU] at hg
 | n + 1,hn,g,hg => by
  rw [bU] at hg
  split at hg
  · rename_i hb
    rcases List.mem_append.1 hg with hg | hg
    · exact mW n (by omega) g hg
    · simp at hg
      subst hg
      refine ⟨⟨n,by omega,?_⟩,rC _⟩
      rw [oS,hb]
      simp; omega
  · exact mW n (by omega) g hg
theorem sE {d : aO} {ws slot g : Nat} (hg : g ∈ bW d ws slot) : (∃ w,w < d.weathers.length ∧ aZ g w = true) ∧ g < 2 ^ d.weathers.length := mW _ (Nat.le_refl _) g hg
theorem jK {c l : List Int} {o k : Nat} (hk : k ≤ o) (ho : o ≤ c.length) : (putL c o l).take k = c.take k := by
 rw [putL,List.append_assoc,List.take_append_of_le_length (by rw [List.length_take]; omega),List.take_take]
 congr 1; omega
theorem tW {c l : List Int} {o : Nat} (ho : o ≤ c.length) : ((putL c o l).drop o).take l.length = l := by
 rw [putL,List.append_assoc,List.drop_append_of_le_length (by rw [List.length_take]; omega)]
 have : (c.take o).drop o = [] := List.drop_eq_nil_of_le (by rw [List.length_take]; omega)
 rw [this,List.nil_append,List.take_append_of_le_length (Nat.le_refl _),List.take_length]
theorem aAi {slot ws : Nat} {s : aB} (h1 : s.planes.length ≤ 2) (h2 : s.legs.length ≤ 2) (h3 : s.people.length ≤ 4) :
 (rB slot ws s).take 2 = [(slot : Int),(ws : Int)] ∧ (((rB slot ws s).take 4).drop 2).take s.planes.length = s.planes ∧ (((rB slot ws s).take 6).drop 4).take s.legs.length = s.legs ∧ ((rB slot ws s).drop 6).take s.people.length = s.people := by
 obtain ⟨c0,e0⟩ : ∃ c0,c0 = [(slot : Int),(ws : Int),0,0,0,0,0,0,0,0] := ⟨_,rfl⟩
 have a0 : c0.length = 10 := by rw [e0]; rfl
 have a1 : (putL c0 2 s.planes).length = 10 := by rw [iV (by omega),a0]
 have a2 : (putL (putL c0 2 s.planes) 4 s.legs).length = 10 := by rw [iV (by omega),a1]
 have ek : rB slot ws s = putL (putL (putL c0 2 s.planes) 4 s.legs) 6 s.people := by rw [e0]; rfl
 have td : ∀ (l : List Int) (a b k : Nat),k ≤ b - a → ((l.take b).drop a).take k = (l.drop a).take k := fun l a b k hk => by
  rw [List.drop_take,List.take_take]; congr 1; omega
 refine ⟨?_,?_,?_,?_⟩
 · rw [ek,jK (by omega) (by omega),jK (by omega) (by omega),jK (by omega) (by omega),e0]; rfl
 · rw [ek,jK (by omega) (by omega),jK (by omega) (by omega),td _ 2 4 _ (by omega),tW (by omega)]
 · rw [ek,jK (by omega) (by omega),td _ 4 6 _ (by omega),tW (by omega)]
 · rw [ek,tW (by omega)]
theorem aFT {slot ws slot' ws' : Nat} {s s' : aB} (h1 : s.planes.length ≤ 2) (h2 : s.legs.length ≤ 2) (h3 : s.people.length ≤ 4) (e1 : s'.planes.length = s.planes.length) (e2 : s'.legs.length = s.legs.length) (e3 : s'.people.length = s.people.length)
 (e : rB slot ws s = rB slot' ws' s') : slot = slot' ∧ ws = ws' ∧ s = s' := by
 obtain ⟨a1,a2,a3,a4⟩ := aAi (slot := slot) (ws := ws) h1 h2 h3
 obtain ⟨b1,b2,b3,b4⟩ := aAi (slot := slot') (ws := ws') (s := s') (by omega) (by omega) (by omega)
 rw [e] at a1 a2 a3 a4
 rw [e1] at b2
 rw [e2] at b3
 rw [e3] at b4
 rw [a1] at b1
 rw [a2] at b2
 rw [a3] at b3
 rw [a4] at b4
 simp at b1
 refine ⟨by omega,by omega,?_⟩
 cases s; cases s'
 simp only at b2 b3 b4
 rw [b2,b3,b4]
def ten : Bool × List Bool := (true,[true,true,true,true,true,true,true,true,true,true])
theorem wX : ∀ (a b : List Int),a.length = b.length → eS (List.replicate a.length true) (aQ a) (aQ b) = some (a == b)
 | [],[],_ => rfl
 | x :: xs,y :: ys,e => by
  have ih := wX xs ys (by simpa using e)
  simp only [aQ,List.map_cons,List.length_cons,List.replicate_succ,eS,ceq] at ih ⊢
  rw [ih]
  by_cases h : x = y
  · subst h; simp
  · have h2 : (x == y) = false := beq_eq_false_iff_ne.2 h
    have h3 : (x :: xs == y :: ys) = false := by rw [List.cons_beq_cons,h2]; rfl
    rw [h2,h3]; simp
theorem aFU {a b : List Int} (ha : a.length = 10) (hb : b.length = 10) : keq ten (.agg (aQ a)) (.agg (aQ b)) = some (decide (a = b)) := by
 have := wX a b (by omega)
 rw [ha] at this
 simp only [keq,ten,if_true]
 refine Eq.trans this ?_
 congr 1
 by_cases e : a = b <;> simp [e]
def fV (M : List (List Int × Int)) : List (AV × AV) := M.map fun m => (.agg (aQ m.1),.int .i64 m.2)
theorem rI {K : List Int} (hK : K.length = 10) : ∀ (M : List (List Int × Int)) (i : Nat),(∀ m ∈ M,m.1.length = 10) →
 lA ten (.agg (aQ K)) (fV M) i = some none ∨ ∃ (j : Nat) (c : Int),M[j]? = some (K,c) ∧ lA ten (.agg (aQ K)) (fV M) i = some (some (i + j,.int .i64 c))
 | [],i,_ => .inl rfl
 | (K',c) :: M,i,hM => by
  have hK' := hM _ List.mem_cons_self
  have ih := rI hK M (i + 1) fun m hm => hM m (List.mem_cons_of_mem _ hm)
  simp only [fV,List.map_cons,lA] at ih ⊢
  rw [aFU hK hK']
  by_cases e : K = K'
  · subst e
    exact .inr ⟨0,c,rfl,by simp⟩
  · simp only [e,decide_false]
    rcases ih with h1 | ⟨j,y,h1,h2⟩
    · exact .inl h1
    · exact .inr ⟨j + 1,y,by simpa using h1,by rw [h2,Nat.add_assoc,Nat.add_comm 1 j]⟩
def nJ (d : aO) (M : List (List Int × Int)) : Prop := ∀ K c,(K,c) ∈ M → K.length = 10 ∧ ∀ k slot ws s,slot + (k + 1) = aT d → s.planes.length = d.planes.length → s.legs.length = d.planes.length → s.people.length = d.people.length → rB slot ws s = K → dV d k slot ws s = c
structure kI (w0 : World) (d : aO) (v : cJ) (i im : Nat) (ms : List Nat) (H : Heap) : Prop where
 hD : pC w0 (msk ms H) d v (.map im) i
 n0 : im ∈ ms
 n2 : ∀ c ∈ ms,c < H.length
 memo : ∃ M,H[im]? = some (some (.map (fV M))) ∧ nJ d M
theorem kI.keep {d : aO} {v : cJ} {i im : Nat} {ms C : List Nat} {H H' : Heap} (a : kI w0 d v i im ms H) (t : Keep C H H') (hC : ∀ c ∈ C,c ∈ ms ∨ H.length ≤ c) (hm : H'[im]? = H[im]?) : kI w0 d v i im ms H' := by
 refine ⟨a.hD.sub (t.msk hC),a.n0,fun c hc => Nat.lt_of_lt_of_le (a.n2 c hc) t.le,?_⟩
 rw [hm]; exact a.memo
theorem kI.app {d : aO} {v : cJ} {i im : Nat} {ms : List Nat} {H L : Heap} (a : kI w0 d v i im ms H) : kI w0 d v i im ms (H ++ L) :=
 a.keep (C := []) aC.refl.app.toK (by simp) (List.getElem?_append_left (a.n2 _ a.n0))
end Go.Proofs.Ab

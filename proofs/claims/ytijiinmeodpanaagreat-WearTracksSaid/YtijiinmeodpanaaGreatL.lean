/- The own layer under the proofs of this seat, part L: what calls of the program come to on an abstract heap. No condition. -/
import Derived.Test.YtijiinmeodpanaaGreatK
set_option linter.unusedSimpArgs false
set_option linter.unusedVariables false
namespace Go.Proofs.Ab
open Go Go.Proofs
variable {w0 : World} {h : aA}
attribute [local irreducible] ACall bB dH bQ dG rvC lp rg dr ex un rv
def SC.snd : SC → SC
 | .seq _ y => y
 | x => x
theorem aFo {a b : AV} {Q : FrameMode → aA → Prop} (q : Q .returning h) : mC Tryz.prog w0 23 [a,b] h .returning Q := by
 refine nF (mf := mf23.er) aBg aEc (qE rfl) (rest := (SC.snd mf23.body).er) rfl (.inl ⟨rfl,rfl,rfl⟩) fun hb ha => cC aQ _ (by decide) (bV ?_)
 rw [← List.append_nil h]
 simp only [go_sem,mf23,SC.snd,SF.er]
 exact ⟨.inl trivial,⟨_,rfl⟩,by rw [List.append_nil]; exact q⟩
theorem aFp {i ia ib : Nat} {x y : List AV} {Q : FrameMode → aA → Prop} (h1 : h[ia]? = some (some (.row x))) (h2 : h[ib]? = some (some (.row y))) (hx : x.length = 1) (hy : y.length = 1) (n1 : ia ≠ ib)
 (q : Q (.panicking [{ v := (impV i).val,recovered := true }]) (((h ++ [some (Blk.row [.int .i64 i])]).set ia (some (Blk.row [.nilS]))).set ib (some (Blk.row [.int .i64 7])))) :
 mC Tryz.prog w0 23 [.ptr (.own ia 0),.ptr (.own ib 0)] h (.panicking (pan (impV i))) Q := by
 refine nF (mf := mf23.er) aBg aEc (qE rfl) (rest := (SC.snd mf23.body).er) rfl (.inr ⟨rfl,rfl,rfl⟩) fun hb ha => cC aQ _ (by decide) (bV ?_)
 have l1 := aP h1
 have l2 := aP h2
 have b1 : ∀ L : aA,(h ++ L)[ia]? = some (some (.row x)) := fun L => aE h1
 have b2 : ∀ L : aA,((h ++ L).set ia (some (.row [.nilS])))[ib]? = some (some (.row y)) := fun L => by rw [qB n1]; exact aE h2
 have dx : x.drop 1 = [] := List.drop_eq_nil_of_le (by omega)
 have dy : y.drop 1 = [] := List.drop_eq_nil_of_le (by omega)
 simp only [go_sem,mf23,SC.snd,SF.er,impV,b1,b2,hx,hy,dx,dy]
 exact ⟨.inl trivial,⟨_,rfl⟩,q⟩
theorem Rows.nbox {H : aA} {ov u : AV} {so fb mi : Nat} {c : List AV} {g : List (List Int)} (a : Rows h H ov so c g) (hb : H[fb]? = some (some (.row [u,.map mi]))) (e : g ≠ []) : fb ≠ so := fun q => by
 have h1 := (a.lst e).2
 rw [q,h1] at hb
 simp only [Option.some.injEq,Blk.row.injEq] at hb
 have hl := a.len
 rw [hb] at hl
 obtain ⟨y,h2,h3⟩ := a.own 1 _ (qA (by simp at hl; omega))
 rw [hb] at h2
 simp at h2
 subst h2
 rcases h3 with ⟨_,h3⟩ | ⟨_,_,h3,_⟩ <;> cases h3
theorem Rows.setBox {H : aA} {ov u : AV} {so fb mi : Nat} {c : List AV} {g : List (List Int)} {r : Option Blk} (a : Rows h H ov so c g) (hb : H[fb]? = some (some (.row [u,.map mi]))) (hf : h.length ≤ fb) : Rows h (H.set fb r) ov so c g := by
 refine ⟨a.sub.setR hf,a.val,fun e => ⟨(a.lst e).1,?_⟩,a.len,fun j x hx => ?_,a.dis⟩
 · rw [qB (a.nbox hb e)]; exact (a.lst e).2
 · obtain ⟨y,h1,h2⟩ := a.own j x hx
   refine ⟨y,h1,iN.to h2 fun b e _ => ?_⟩
   rw [qB]
   · exact e
   · intro q
     rw [← q,hb] at e
     simp only [Option.some.injEq,Blk.row.injEq] at e
     exact oF e.symm
theorem dT.rows {H : aA} {fb mi so : Nat} {c : List AV} {g : List (List Int)} {M : List aB} (a : dT h H fb mi so c g M) : Rows h H (slG so g.length) so c g := ⟨a.sub,rfl,a.lst,a.len,a.own,a.dis⟩
theorem Rows.fleet {H : aA} {fb mi so : Nat} {c : List AV} {g : List (List Int)} {M : List aB} (a : Rows h H (slG so g.length) so c g) (lf : h.length ≤ fb) (lm : h.length ≤ mi) (hb : H[fb]? = some (some (.row [slG so g.length,.map mi]))) (hm : H[mi]? = some (some (.map (eA M)))) : dT h H fb mi so c g M :=
 ⟨a.sub,lf,lm,hb,a.lst,a.len,a.own,a.dis,hm⟩
def eH (l : List aH) : List aB := l.foldl (fun M t => t.ser.foldl bS M) []
def iE (d : Nat) : List aM → List (List Int) → List aB → Option (List aM × List (List Int) × List aB)
 | [],g,M => some ([],g,M)
 | s :: r,g,M => if s.night = d then (if fW g s then iE d r (lK g s) (bS M s.serial) else none) else some (s :: r,g,M)
def lE (l : List aH) : Nat → Nat → List aM → List (List Int) → List aB → Option (List aB)
 | 0,_,_,_,M => some M
 | n + 1,d,sw,g,M => (iE d sw g (jK l d 0 M g)).bind fun p => lE l n (d + 1) p.1 p.2.1 p.2.2
def jX (M : List aB) : List aB := (fK (M.map aB.n)).map fun n => (aZ M n).getD (zT 0)
def hC (l : List aH) (sw : List aM) : Option (List aB) := if l = [] then some [] else (lE l (bD l) 0 sw (l.map aH.ser) (eH l)).map jX
def rM (w0 : World) (h : aA) (l : List aH) (sw : List aM) (y : AV) (H : aA) : Prop := aG h H ∧
 ((4 < l.length ∨ 200 < sw.length) ∧ y = .tup [.nilS,.int .i64 3] ∨
  ¬ (4 < l.length ∨ 200 < sw.length) ∧ (fS l && cW l sw) = false ∧ y = .tup [.nilS,.int .i64 2] ∨
  ¬ (4 < l.length ∨ 200 < sw.length) ∧ (fS l && cW l sw) = true ∧ (hC l sw = none ∧ y = .tup [.nilS,.int .i64 7] ∨ ∃ ts v,hC l sw = some ts ∧ y = .tup [v,.int .i64 0] ∧ Sl w0 H 6 v (ts.map aB.c)))
end Go.Proofs.Ab
namespace Go.Proofs.Ab
open Go Go.Proofs
theorem qN {x : aB} : ∀ {M : List aB},(eY M x).length = if (aZ M x.n).isSome then M.length else M.length + 1
 | [] => rfl
 | m :: M => by
  by_cases e : m.n = x.n
  · simp [eY,aZ,e]
  · have ih := qN (x := x) (M := M)
    simp only [eY,aZ,if_neg e,List.length_cons,ih]
    split <;> rfl
theorem xH {M : List aB} {n : Int} : (bS M n).length ≤ M.length + 1 := by
 unfold bS
 split
 · rw [qN]; split <;> omega
 · omega
theorem aDr {u : bW} {M : List aB} {n : Int} : (eJ u M n).length = M.length := by
 unfold eJ
 split
 · rfl
 · split
   · rename_i x hx
     rw [qN,show (gB x u).n = n from (rB hx : x.n = n),hx]; rfl
   · rfl
theorem aAZ {u : bW} : ∀ {r : List Int} {M : List aB},(lF u M r).length = M.length
 | [],_ => rfl
 | n :: r,M => by rw [lF,aAZ,aDr]
theorem aBt {l : List aH} {d : Nat} : ∀ {g : List (List Int)} {i : Nat} {M : List aB},(jK l d i M g).length = M.length
 | [],_,_ => rfl
 | r :: g,i,M => by rw [jK,aBt,aAZ]
theorem iG {M : List aB} {n k : Int} : aZ (bS M n) k = if k = n ∧ 0 ≤ n ∧ (aZ M n).isNone then some (zT n) else aZ M k := by
 unfold bS
 by_cases c : (aZ M n).isNone ∧ 0 ≤ n
 · rw [if_pos c,iH]
   by_cases e : k = n
   · rw [if_pos (show k = (zT n).n from e),if_pos ⟨e,c.2,c.1⟩]
   · rw [if_neg (show ¬ k = (zT n).n from e),if_neg fun q => e q.1]
 · rw [if_neg c,if_neg fun q => c ⟨q.2.2,q.2.1⟩]
theorem TB.know {k : Nat} {M : List aB} (a : TB k M) (n : Int) : TB k (bS M n) := fun m x hx => by
 rw [iG] at hx
 split at hx
 · cases hx; simp [zT]
 · exact a m x hx
theorem nM {M : List aB} {n k : Int} (a : (aZ M k).isSome = true) : (aZ (bS M n) k).isSome = true := by
 rw [iG]
 split
 · rfl
 · exact a
theorem sZ {M : List aB} {n : Int} (h0 : 0 ≤ n) : (aZ (bS M n) n).isSome = true := by
 rw [iG]
 split
 · rfl
 · rename_i c
   cases e : aZ M n with
   | some x => rfl
   | none => exact absurd ⟨rfl,h0,by rw [e]; rfl⟩ c
theorem xF {k : Nat} : ∀ {r : List Int} {M : List aB},TB k M → TB k (r.foldl bS M)
 | [],_,a => a
 | n :: r,M,a => xF (r := r) (a.know n)
theorem sX : ∀ {r : List Int} {M : List aB},(r.foldl bS M).length ≤ M.length + r.length
 | [],_ => Nat.le_refl _
 | n :: r,M => by
  have := sX (r := r) (M := bS M n)
  have := xH (M := M) (n := n)
  simp only [List.foldl_cons,List.length_cons]
  omega
theorem lP {k : Int} : ∀ {r : List Int} {M : List aB},(aZ M k).isSome = true → (aZ (r.foldl bS M) k).isSome = true
 | [],_,a => a
 | n :: r,M,a => lP (r := r) (nM (n := n) a)
theorem sW {k : Int} (h0 : 0 ≤ k) : ∀ {r : List Int} {M : List aB},k ∈ r → (aZ (r.foldl bS M) k).isSome = true
 | n :: r,M,h => by
  rcases List.mem_cons.1 h with e | e
  · subst e; exact lP (r := r) (sZ h0)
  · exact sW (r := r) h0 e
theorem Cov.mono {g : List (List Int)} {M N : List aB} (a : Cov g M) (m : ∀ k,(aZ M k).isSome = true → (aZ N k).isSome = true) : Cov g N := fun r hr n hn h0 => m n (a r hr n hn h0)
theorem Cov.put {g : List (List Int)} {M : List aB} (a : Cov g M) (s : aM) : Cov (lK g s) (bS M s.serial) := fun r hr n hn h0 => by
 rcases List.mem_or_eq_of_mem_set hr with hr | rfl
 · exact nM (a r hr n hn h0)
 · rcases List.mem_or_eq_of_mem_set hn with hn | rfl
   · refine nM (a _ ?_ n hn h0)
     have : g.getD s.tail.toNat [] ≠ [] := fun e => by rw [e] at hn; cases hn
     by_cases hl : s.tail.toNat < g.length
     · rw [aS hl]; exact qG hl
     · exact absurd (by rw [List.getD_eq_getElem?_getD,List.getElem?_eq_none (by omega)]; rfl) this
   · exact sZ h0
theorem aEm {l : List aH} : ∀ {M : List aB} {k : Nat},TB k M → TB k (l.foldl (fun M t => t.ser.foldl bS M) M) := by
 induction l with
 | nil => exact fun a => a
 | cons t l ih => exact fun a => ih (xF a)
theorem aG2 {l : List aH} : TB 0 (eH l) := aEm fun n x hx => by cases hx
theorem tA {k : Int} : ∀ {l : List aH} {M : List aB},(aZ M k).isSome = true → (aZ (l.foldl (fun M t => t.ser.foldl bS M) M) k).isSome = true
 | [],_,a => a
 | _ :: l,_,a => tA (l := l) (lP a)
theorem xN : ∀ {l : List aH} {M : List aB},Cov (l.map aH.ser) (l.foldl (fun M t => t.ser.foldl bS M) M)
 | [],_,r,hr,_,_,_ => by cases hr
 | t :: l,M,r,hr,n,hn,h0 => by
  rcases List.mem_cons.1 hr with e | e
  · subst e; exact tA (l := l) (sW h0 hn)
  · exact xN (l := l) r e n hn h0
theorem xM : ∀ {l : List aH} {M : List aB},(∀ t ∈ l,t.ser.length ≤ 5) → (l.foldl (fun M t => t.ser.foldl bS M) M).length ≤ M.length + 5 * l.length
 | [],_,_ => Nat.le_refl _
 | t :: l,M,h => by
  have := xM (l := l) (M := t.ser.foldl bS M) fun x hx => h x (by simp [hx])
  have := sX (r := t.ser) (M := M)
  have := h t (by simp)
  simp only [List.foldl_cons,List.length_cons]
  omega
theorem TOK.fly {l : List aH} (k : TOK l) {g : List (List Int)} (s : dE l g) {d : Nat} (hd : d < bD l) : FlyOK l g d := by
 have hl := k.n
 have gl := s.len
 refine ⟨by omega,by omega,fun x hx => ?_,fun t ht => ?_,fun t ht => (k.day ht).2.2.2⟩
 · obtain ⟨i,hi,rfl⟩ := List.getElem_of_mem hx
   rw [s.at_ hi,aS (by omega)]
   have := (k.day (qG (show i < l.length by omega))).2.2.1
   omega
 · rw [(k.day ht).1]; exact hd
theorem TOK.put {l : List aH} (k : TOK l) {g : List (List Int)} (s : dE l g) {x : aM} (hx : sD l x) : PutOK g x := by
 have hl := k.n
 have gl := s.len
 have h1 := hx.t0
 have h2 := hx.t1
 refine ⟨by omega,s.short k.short,h1,by omega,hx.s0,?_⟩
 have hk : x.tail.toNat < g.length := by omega
 rw [aS hk,s.at_ hk]
 exact hx.s1
end Go.Proofs.Ab
namespace Go.Proofs.Ab
open Go Go.Proofs
variable {w0 : World} {h : aA}
attribute [local irreducible] ACall bB dH bQ dG rvC lp rg dr ex un rv
theorem uC {P : Program} {r : Option Nat} {nt Z : Nat} {c : SC} {fr : Fr} {Q : Exit → Fr → aA → Prop} (e : ex P w0 r nt Z Q c [] fr (h ++ [])) : sx P w0 r nt Z c fr h Q := by
 rw [List.append_nil] at e; exact bV e
@[go_sem] theorem dQ_n {P : Program} {nt : Nat} {rs : List RV} {h0 : aA} {Q : AV → aA → Prop} {X : List PanicEntry → aA → Prop} {y : MC} {fr : Fr} : dQ P w0 nt rs h0 Q X y .normal fr h = EvD P w0 nt rs h0 Q X y fr h := (rfl)
@[go_sem] theorem dQ_r {P : Program} {nt : Nat} {rs : List RV} {h0 : aA} {Q : AV → aA → Prop} {X : List PanicEntry → aA → Prop} {y : MC} {fr : Fr} : dQ P w0 nt rs h0 Q X y .ret fr h = rL w0 rs Q X .ret fr h := (rfl)
theorem aFE {H : aA} {i : Nat} {p : Pl} {k : IntKind} {n : Int} (hi : H[i]? = some (some (.row [.nilS]))) (r : rd w0 H p = some (.int k n)) : rd w0 (H.set i none) p = some (.int k n) := by
 cases p with
 | old a => exact r
 | own b o =>
  simp only [rd] at r ⊢
  by_cases e : b = i
  · subst e; rw [hi] at r
    cases o with
    | zero => simp at r
    | succ o => simp at r
  · rw [qB (fun q => e q.symm)]; exact r
theorem aHj {v sv : AV} {l : List aH} {sw : List aM} (hv : dF w0 h v l) (hw : eD w0 h sv sw) (hs : jD l) (hn : sw.length ≤ 1000) :
 fU Tryz.prog w0 6 [v,sv] h (rM w0 h l sw) (fun _ _ => False) := by
 refine yV (mf := mf6.er) mf6_ok mf6_b (qE rfl) fun hb ha => aAK (x := .reg _) (y := .seq (.seq _ _) _) aQ rfl (uC ?_)
 have hlen := hv.len
 have hlw := hw.len
 have hll := hs.1
 simp only [go_sem]
 have rn : ∀ (fr : Fr) (G : aA) (b : Nat) (k : Int),fr.get 4 = .ptr (.own b 0) → fr.get 5 = .ptr (.own (b + 1) 0) → G[b]? = some (some (.row [.nilS])) → G[b + 1]? = some (some (.row [.int .i64 k])) → fL w0 mf6.er.res fr G = some (.tup [.nilS,.int .i64 k]) := fun fr G b k f4 f5 g1 g2 => by
  simp [mf6,SF.er,fL,jI,f4,f5,rdv,rd,g1,g2]
 refine aAK (x := .seq _ _) (y := .seq (.seq _ _) _) aQ (by decide) (uC ?_)
 by_cases c1 : 4 < l.length ∨ 200 < sw.length
 · by_cases c2 : 4 < l.length
   · have c2' : (4 : Int) < l.length := by omega
     simp only [go_sem,hlen,hlw,c2']
     exact ⟨_,rn _ _ h.length 3 rfl rfl (by simp) (by simp),aG.refl.app,.inl ⟨c1,rfl⟩⟩
   · have c2' : ¬ (4 : Int) < l.length := by omega
     have c3' : (200 : Int) < sw.length := by omega
     simp only [go_sem,hlen,hlw,c2',c3']
     exact ⟨_,rn _ _ h.length 3 rfl rfl (by simp) (by simp),aG.refl.app,.inl ⟨c1,rfl⟩⟩
 have c2' : ¬ (4 : Int) < l.length := by omega
 have c3' : ¬ (200 : Int) < sw.length := by omega
 simp only [go_sem,hlen,hlw,c2',c3']
 refine aAK (x := .seq _ _) (y := .seq (.reg _) _) aQ (by decide) (uC ?_)
 obtain ⟨B,eB⟩ : ∃ B,B = h ++ [some (Blk.row [AV.nilS]),some (Blk.row [AV.int IntKind.i64 0])] := ⟨_,rfl⟩
 have sB : aG h B := by rw [eB]; exact aG.refl.app
 have lB : B.length = h.length + 2 := by rw [eB]; simp
 have bA : B[h.length]? = some (some (.row [.nilS])) := by rw [eB]; simp
 have bE : B[h.length + 1]? = some (some (.row [.int .i64 0])) := by rw [eB]; simp
 rw [← eB,List.append_nil]
 simp only [go_sem]
 refine aO (aDd (hv.sub sB) hs).v ?_
 have bad : (fS l && cW l sw) = false → ∀ fr : Fr,fr.get 4 = .ptr (.own h.length 0) → fr.get 5 = .ptr (.own (h.length + 1) 0) → rL w0 mf6.er.res (rM w0 h l sw) (fun _ _ => False) .ret fr ((B.set h.length (some (.row [.nilS]))).set (h.length + 1) (some (.row [.int .i64 2]))) := fun e fr f4 f5 =>
  ⟨_,rn _ _ h.length 2 f4 f5 (by rw [qB (by omega),qF (by omega)]) (by rw [qF (by simp; omega)]),(sB.setR (by omega)).setR (by omega),.inr (.inl ⟨c1,e,rfl⟩)⟩
 have st1 : ∀ X : Option Blk,(B.set h.length X)[h.length + 1]? = some (some (.row [.int .i64 0])) := fun X => by rw [qB (by omega)]; exact bE
 cases d1 : fS l with
 | false =>
  simp only [go_sem,bA,st1]
  exact bad (by rw [d1]; rfl) _ rfl rfl
 | true =>
 simp only [go_sem]
 refine aO (zB (hv.sub sB) (hw.sub sB) hs hn).v ?_
 cases d2 : cW l sw with
 | false =>
  simp only [go_sem,bA,st1]
  exact bad (by rw [d1,d2]; rfl) _ rfl rfl
 | true =>
 simp only [go_sem]
 refine aHr (l := [_]) aQ (by decide) ?_
 show ∃ g capt,AV.fn (Fn.func 23) [] [.ptr (.own h.length 0),.ptr (.own (h.length + 1) 0)] = .fn (.func g) [] capt ∧ sx Tryz.prog w0 none _ B.length _ _ B _
 refine ⟨23,_,rfl,uC ?_⟩
 have hT : TOK l := ⟨by omega,d1⟩
 have hbl : B.length = B.length := rfl
 simp only [go_sem,hlen]
 obtain ⟨fb,efb⟩ : ∃ fb,fb = B.length + 1 := ⟨_,rfl⟩
 obtain ⟨mi,emi⟩ : ∃ mi,mi = B.length := ⟨_,rfl⟩
 have F0 : dT B (B ++ [some (Blk.map []),some (Blk.row [AV.nilS,AV.map B.length])]) fb mi 0 [] [] [] := by
  rw [efb,emi]
  exact ⟨aG.refl.app,by omega,by omega,by simp [slG],fun e => absurd rfl e,rfl,fun j x e => by simp at e,fun i j b n n' f f' e => by simp at e,by simp [eA]⟩
 have nfb : AV.ptr (.own (B.length + 1) 0) = .ptr (.own fb 0) := by rw [efb]
 rw [nfb]
 have finR : ∀ (fr : Fr) (G : aA) (x : AV) (k : Int),fr.get 4 = .ptr (.own h.length 0) → fr.get 5 = .ptr (.own (h.length + 1) 0) → G[h.length]? = some (some (.row [x])) → G[h.length + 1]? = some (some (.row [.int .i64 k])) → Ab.one x = true → rM w0 h l sw (.tup [x,.int .i64 k]) G →
  defK Tryz.prog w0 mf6.er.res 23 [.ptr (.own h.length 0),.ptr (.own (h.length + 1) 0)] (rM w0 h l sw) (fun _ _ => False) .ret fr G := fun fr G x k f4 f5 g1 g2 o1 q =>
  aFo ⟨_,by simp [mf6,SF.er,fL,jI,f4,f5,rdv,rd,g1,g2],q⟩
 have finP : ∀ (fr : Fr) (G : aA) (i : Nat),fr.get 4 = .ptr (.own h.length 0) → fr.get 5 = .ptr (.own (h.length + 1) 0) → aG B G → hC l sw = none →
  defK Tryz.prog w0 mf6.er.res 23 [.ptr (.own h.length 0),.ptr (.own (h.length + 1) 0)] (rM w0 h l sw) (fun _ _ => False) (.panic (pan (impV i))) fr G := fun fr G i f4 f5 sG tn => by
  have g1 := sG.2 _ _ bA
  have g2 := sG.2 _ _ bE
  have l1 := aP g2
  refine aFp g1 g2 rfl rfl (by omega) ⟨_,?_,?_,.inr (.inr ⟨c1,by rw [d1,d2]; rfl,.inl ⟨tn,rfl⟩⟩)⟩
  · exact rn _ _ _ _ f4 f5 (by rw [qB (by omega),qF (by simp; omega)]) (by rw [qF (by simp; omega)])
  · exact (((sB.trans sG).app).setR (by omega)).setR (by omega)
 refine dB (S := aA × Nat × List AV) (fun j _ => [(0,v),(1,sv),(4,.ptr (.own h.length 0)),(5,.ptr (.own (h.length + 1) 0)),(6,.ptr (.own fb 0)),(36,v),(37,.int .i64 l.length),(38,.int .i64 j)]) (fun _ s => s.1) (fun j s => dT B s.1 fb mi s.2.1 s.2.2 ((l.take j).map aH.ser) (eH (l.take j))) l.length (_,0,[]) F0 rfl rfl ?_ ?_
 · rintro j ⟨H,so,c⟩ hj F ih
   simp only at F ih ⊢
   refine aJ aQ aEU [0,1,4,5,6,36,37,38] L6_1.eq_1 ?_
   have e1 : (j : Int) < l.length := by omega
   obtain ⟨p,dv,tv,i1,r1,ra,rb,hd,hsv⟩ := hv.at_ hj
   have shH := sB.trans F.sub
   have r1' := shH.rdn (uQ r1)
   obtain ⟨t,ht⟩ : ∃ t,t = l[j] := ⟨_,rfl⟩
   have htm := hs.2 t (ht ▸ qG hj)
   have cd := hd.one
   have cs := hsv.s.one
   rw [← ht] at hsv
   simp only [go_sem,e1,i1,r1',cd.1,cs.1]
   obtain ⟨H1,eH1⟩ : ∃ H1,H1 = H ++ [some (Blk.row [dv,tv])] := ⟨_,rfl⟩
   have s1 : aG H H1 := by rw [eH1]; exact aG.refl.app
   have b8 : H1[H.length]? = some (some (.row [dv,tv])) := by rw [eH1]; simp
   rw [← eH1]
   have F1 := F.to s1
   have bx1 := F1.box
   refine dr_fp aQ [0,1,2,3,4,5,6,7,8,9,10,11,12] [o_ 42 (m_ 6),o_ 43 (m_ 6),o_ 44 (.nilck (.t 43)),o_ 45 (.addr (.t 44) 0),o_ 46 (l_ 45),o_ 47 (.addr (.t 8) 1),o_ 48 (l_ 47),.call (some 49) none (f_ 24) [(.t 48)]] [([(4,o_ 46 (l_ 45))],[o_ 50 (.bslice 1 [.nilS] 1 [(0,1,(.t 49))]),o_ 51 (.app 1 [.nilS] 24 (.t 46) (.t 50)),o_ 52 (.nilck (.t 42)),o_ 53 (.addr (.t 52) 0),.op none none (.store (.t 53) (.t 51) 1)])] rfl rfl (by kernel_rfl) ?_
   simp only [go_sem,b8,bx1]
   refine bX (ACall.vc (first := []) (args := [_]) (aDf t.ser tv (hsv.sub (shH.trans s1)) (by omega))) ?_
   rintro y H2 ⟨s2,oy⟩
   have F2 := F1.to s2
   have bx2 := F2.box
   have o1 := oy.one
   have gn : ((l.take j).map aH.ser).length = j := by simp; omega
   have oy' : iN H1 (H2 ++ [some (Blk.row [y])]) y t.ser := iN.to oy fun b e _ => aE e
   have hk : (H2 ++ [some (Blk.row [y])])[H2.length]? = some (some (.row [y])) := by rw [qI (Nat.le_refl _),Nat.sub_self]; rfl
   obtain ⟨G,ap,RG,kp,lG⟩ := F1.rows.push (w0 := w0) (f := true) s2.app oy' hk (by omega)
   have lH2 : (H2 ++ [some (Blk.row [y])]).length = H2.length + 1 := by simp
   rw [lH2] at ap RG lG
   rw [gn] at ap RG bx1 bx2
   have R2 := F1.rows.to (s2.app (L := [some (Blk.row [y])]))
   have bx3 : (H2 ++ [some (Blk.row [y])])[fb]? = some (some (.row [slG so j,.map mi])) := aE bx2
   have mp3 : (H2 ++ [some (Blk.row [y])])[mi]? = some (some (.map (eA (eH (l.take j))))) := aE F2.map
   have bxG : G[fb]? = some (some (.row [slG so j,.map mi])) := kp fb _ (fun e => R2.nbox bx3 e) bx3
   have mpG : G[mi]? = some (some (.map (eA (eH (l.take j))))) := kp mi _ (fun e q => by
    have := (R2.lst e).2
    rw [← q,mp3] at this
    cases this) mp3
   have b8G : G[H.length]? = some (some (.row [dv,tv])) := kp _ _ (fun e q => by
    have := (F.lst e).2
    have := aP this
    omega) (aE (s2.2 _ _ b8))
   simp only [go_sem,bx2,gn,o1.1,o1.2,ap,bxG]
   obtain ⟨G1,eG1⟩ : ∃ G1,G1 = G.set fb (some (Blk.row [AV.sl (Pl.own (H2.length + 1) 0) (j + 1) 1 false,AV.map mi])) := ⟨_,rfl⟩
   rw [← eG1]
   have fbl := aP F.box
   have fbG := aP bxG
   have b8G1 : G1[H.length]? = some (some (.row [dv,tv])) := by rw [eG1,qB (by omega)]; exact b8G
   have gl1 : (l.take (j + 1)).map aH.ser = (l.take j).map aH.ser ++ [t.ser] := by
    rw [List.take_add_one,qA hj,List.map_append,ht]; rfl
   have nfm : fb ≠ mi := fun q => by rw [q,mpG] at bxG; cases bxG
   have RS := RG.setBox bxG F.lf (r := some (Blk.row [AV.sl (Pl.own (H2.length + 1) 0) (j + 1) 1 false,AV.map mi]))
   rw [← eG1,← gl1] at RS
   have gn1 : ((l.take (j + 1)).map aH.ser).length = j + 1 := by simp; omega
   have FG := Rows.fleet (by rw [gn1]; exact RS) F.lf F.lm (by rw [gn1,eG1]; exact qF fbG) (by rw [eG1,qB nfm]; exact mpG)
   have ltv := (SlI.use hsv.s).1
   simp only [go_sem,b8G1,ltv]
   refine dB (S := aA) (fun k _ => [(0,v),(1,sv),(4,.ptr (.own h.length 0)),(5,.ptr (.own (h.length + 1) 0)),(6,.ptr (.own fb 0)),(36,v),(37,.int .i64 l.length),(38,.int .i64 j),(55,tv),(56,.int .i64 t.ser.length),(57,.int .i64 k)]) (fun _ s => s) (fun k s => dT B s fb mi (H2.length + 1) (c ++ [y]) ((l.take (j + 1)).map aH.ser) ((t.ser.take k).foldl bS (eH (l.take j)))) t.ser.length G1 FG rfl rfl ?_ ?_
   · rintro k H3 hk F3 ih2
     refine aJ aQ aEV [0,1,4,5,6,36,37,38,55,56,57] L6_0.eq_1 ?_
     have e2 : (k : Int) < t.ser.length := by omega
     obtain ⟨q,i3,r3,r3'⟩ := (hsv.sub (sB.trans F3.sub)).s.at_ hk
     simp only [go_sem,e2,i3,r3,r3']
     refine bX (ACall.vc (first := []) (args := [_,_]) (aEi F3 t.ser[k])) ?_
     rintro yy H4 ⟨F4,_⟩
     simp only [go_sem]
     exact ⟨(by unfold I64; omega),ih2 H4 (by rw [List.take_add_one (l := t.ser),qA hk,List.foldl_append]; exact F4)⟩
   · rintro H3 F3
     refine aJ aQ aEV [0,1,4,5,6,36,37,38,55,56,57] L6_0.eq_1 ?_
     have e2 : ¬ (t.ser.length : Int) < t.ser.length := Int.lt_irrefl _
     simp only [go_sem,e2]
     refine ⟨(by unfold I64; omega),ih (H3,H2.length + 1,c ++ [y]) ?_⟩
     rw [List.take_length] at F3
     have : eH (l.take (j + 1)) = t.ser.foldl bS (eH (l.take j)) := by
      rw [eH,List.take_add_one,qA hj,List.foldl_append,ht]; rfl
     rw [this]
     exact F3
 · rintro ⟨H,so,c⟩ F
   simp only at F ⊢
   rw [List.take_length] at F
   refine aJ aQ aEU [0,1,4,5,6,36,37,38] L6_1.eq_1 ?_
   have e2 : ¬ (l.length : Int) < l.length := Int.lt_irrefl _
   by_cases hl0 : l = []
   · have e3 : (l.length : Int) = 0 := by rw [hl0]; rfl
     have sBH := sB.trans F.sub
     have h4 := F.sub.2 _ _ bA
     have h5 : ∀ X,(H.set h.length X)[h.length + 1]? = some (some (.row [.int .i64 0])) := fun X => by rw [qB (by omega)]; exact F.sub.2 _ _ bE
     simp only [go_sem,e2,hlen,e3,h4,h5]
     refine finR _ _ .nilS 0 rfl rfl ?_ ?_ rfl ⟨((sB.trans F.sub).setR (by omega)).setR (by omega),.inr (.inr ⟨c1,by rw [d1,d2]; rfl,.inr ⟨[],.nilS,by rw [hC,if_pos hl0],rfl,.inl ⟨rfl,rfl⟩⟩⟩)⟩
     · rw [qB (by omega),qF (aP h4)]
     · exact qF (by have := aP (h5 none); simpa using this)
   have e3 : ¬ (l.length : Int) = 0 := by have : l.length ≠ 0 := fun e => hl0 (List.eq_nil_of_length_eq_zero e); omega
   have lp0 : 0 < l.length := by omega
   have sBH := sB.trans F.sub
   obtain ⟨p0,dv0,sv0,i0,_,r0a,_,hd0,_⟩ := (hv.sub sBH).at_ (j := 0) lp0
   have hdays0 : bD l = l[0].days.length := by rw [bD,aS]
   have ld0 := hd0.len
   rw [← hdays0] at ld0
   obtain ⟨D,hD⟩ : ∃ D,D = bD l := ⟨_,rfl⟩
   have hD30 : D ≤ 30 := hD ▸ hT.d
   rw [← hD] at ld0
   have r0a' := fT r0a
   simp only [go_sem,e2,hlen,e3,i0,r0a',ld0]
   have hok : ∀ s ∈ sw,sD l s := fun s hs => by
    obtain ⟨i,hi,rfl⟩ := List.getElem_of_mem hs
    have := List.all_eq_true.1 d2 i (List.mem_range.2 hi)
    rw [Bool.and_eq_true,aS hi] at this
    exact sD.of this.1
   have ini : (eH l).length ≤ 20 := by
    have := xM (l := l) (M := []) fun t ht => (hT.day ht).2.2.1
    have := hT.n
    simp only [List.length_nil] at *
    unfold eH
    omega
   have sh0 := dE.start l
   refine dB (S := aA × Nat × List (List Int) × List aB) (fun d s => [(0,v),(1,sv),(4,.ptr (.own h.length 0)),(5,.ptr (.own (h.length + 1) 0)),(6,.ptr (.own fb 0)),(11,.int .i64 s.2.1),(73,.int .i64 D),(74,.int .i64 d)]) (fun _ s => s.1)
    (fun d s => aAI B fb mi so c s.2.2.1 (400 * d) s.1 s.2.2.2 ∧ dE l s.2.2.1 ∧ s.2.1 ≤ sw.length ∧ s.2.2.2.length ≤ 20 + s.2.1 ∧ lE l (D - d) d (sw.drop s.2.1) s.2.2.1 s.2.2.2 = lE l D 0 sw (l.map aH.ser) (eH l)) D (H,0,l.map aH.ser,eH l) ⟨⟨F,aG2,xN⟩,sh0,Nat.zero_le _,ini,rfl⟩ rfl rfl ?_ ?_
   · rintro d ⟨H1,nx,g,M⟩ hd ⟨FI,sh,hnx,ml,rq⟩ ih
     simp only at FI sh hnx ml rq ih ⊢
     refine aJ aQ aET [0,1,4,5,6,11,73,74] L6_3.eq_1 ?_
     have e4 : (d : Int) < D := by omega
     simp only [go_sem,e4]
     refine bX (ACall.vc (first := []) (args := [_,_,_]) (fly_c (hv.sub sB) FI (hT.fly sh (hD ▸ hd)) (by omega) (by omega))) ?_
     rintro yy H2 FJ
     have gl := sh.len
     have ln4 := hT.n
     have FJ' : aAI B fb mi so c g (400 * (d + 1)) H2 (jK l d 0 M g) := ⟨FJ.f,fun n x hx => by have := FJ.b n x hx; omega,FJ.c⟩
     obtain ⟨m,hm⟩ : ∃ m,D - d = m + 1 := ⟨D - d - 1,by omega⟩
     rw [hm,lE] at rq
     simp only [go_sem]
     refine lp_ind (S := aA × Nat × List (List Int) × List aB) (fun s => [(0,v),(1,sv),(4,.ptr (.own h.length 0)),(5,.ptr (.own (h.length + 1) 0)),(6,.ptr (.own fb 0)),(11,.int .i64 s.2.1),(12,.int .i64 d),(73,.int .i64 D),(74,.int .i64 d)]) (fun s => s.1) (fun s => sw.length - s.2.1)
      (fun s => aAI B fb mi so c s.2.2.1 (400 * (d + 1)) s.1 s.2.2.2 ∧ dE l s.2.2.1 ∧ s.2.1 ≤ sw.length ∧ s.2.2.2.length ≤ 20 + s.2.1 ∧ ((iE d (sw.drop s.2.1) s.2.2.1 s.2.2.2).bind fun p => lE l m (d + 1) p.1 p.2.1 p.2.2) = lE l D 0 sw (l.map aH.ser) (eH l)) (H2,nx,g,jK l d 0 M g) ⟨FJ',sh,hnx,by rw [aBt]; exact ml,rq⟩ rfl rfl ?_
     clear rq FJ FJ' FI sh hnx ml yy gl
     rintro ⟨H3,nx,g,M⟩ ⟨FI,sh,hnx,ml,rq⟩ ih2
     simp only at FI sh hnx ml rq ih2 ⊢
     refine aJ aQ L6_2_g [0,1,4,5,6,11,12,73,74] L6_2.eq_1 ?_
     have hm' : D - (d + 1) = m := by omega
     have stop : iE d (sw.drop nx) g M = some (sw.drop nx,g,M) → lE l (D - (d + 1)) (d + 1) (sw.drop nx) g M = lE l D 0 sw (l.map aH.ser) (eH l) := fun e => by
      rw [e] at rq; rw [hm']; exact rq
     by_cases hx : nx = sw.length
     · have e5 : ¬ (nx : Int) < sw.length := by omega
       simp only [go_sem,e5,hlw]
       exact ⟨(by unfold I64; omega),ih (H3,nx,g,M) ⟨FI,sh,hnx,ml,stop (by rw [List.drop_eq_nil_of_le (by omega)]; rfl)⟩⟩
     have e5 : (nx : Int) < sw.length := by omega
     have nxl : nx < sw.length := by omega
     obtain ⟨p,i1,r1,r1'⟩ := (hw.sub (sB.trans FI.f.sub)).at_ nxl
     obtain ⟨s,hs'⟩ : ∃ s,s = sw[nx] := ⟨_,rfl⟩
     have hsm : s ∈ sw := hs' ▸ qG nxl
     rw [← hs'] at r1 r1'
     have dr : sw.drop nx = s :: sw.drop (nx + 1) := by rw [List.drop_eq_getElem_cons nxl,← hs']
     rw [dr,iE] at rq
     have rn0 : rd w0 H3 (p.add 0) = some (.int .i64 s.night) := lI r1' rfl
     by_cases c5 : s.night = d
     · rw [if_pos c5] at rq
       have pc := put_c (w0 := w0) FI.f nx s (hT.put sh (hok s hsm))
       have sc : s.c = [.int .i64 d,.int .i64 s.tail,.int .i64 s.slot,.int .i64 s.serial] := by rw [aM.c,c5]
       rw [sc] at pc
       simp only [go_sem,e5,hlw,i1,rn0,c5,r1']
       refine aDM (show cV Tryz.prog w0 (.fn (.func 27) [] []) [_,_,_] H3 _ _ from pc) ?_ ?_
       · rintro yy H4 ⟨pk,F4⟩
         rw [if_pos pk] at rq
         simp only [go_sem]
         exact ⟨(by unfold I64; omega),ih2 (H4,nx + 1,lK g s,bS M s.serial) ⟨⟨F4,FI.b.know _,FI.c.put s⟩,sh.put s,nxl,(by have := xH (M := M) (n := s.serial); show (bS M s.serial).length ≤ 20 + (nx + 1); omega),rq⟩ (show sw.length - (nx + 1) < sw.length - nx by omega)⟩
       · rintro ch H4 ⟨rfl,pk,s4⟩
         rw [if_neg (by rw [pk]; simp)] at rq
         simp only [go_sem]
         exact finP _ _ _ rfl rfl s4 (by rw [hC,if_neg hl0,← hD,← rq]; rfl)
     · have c5' : (s.night == (d : Int)) = false := by simpa using c5
       simp only [go_sem,e5,hlw,i1,rn0,c5']
       exact ⟨(by unfold I64; omega),ih (H3,nx,g,M) ⟨FI,sh,hnx,ml,stop (by rw [dr,iE,if_neg c5])⟩⟩
   · rintro ⟨H1,nx,g,M⟩ ⟨FI,sh,hnx,ml,rq⟩
     simp only at FI sh hnx ml rq ⊢
     refine aJ aQ aET [0,1,4,5,6,11,73,74] L6_3.eq_1 ?_
     have e4 : ¬ (D : Int) < D := Int.lt_irrefl _
     rw [Nat.sub_self,lE] at rq
     have bx1 := FI.f.box
     have bx2 := bx1
     simp only [go_sem,e4,bx1]
     have keys : ACall Tryz.prog w0 29 [.map mi] H1 fun y G => y = .fn (.func 63) [] [.ptr (.own H1.length 0)] ∧ G = H1 ++ [some (Blk.row [.map mi])] := by
      refine bZ aQ aGB mf29_b mf29_g (qE rfl) fun hb ha => bV ?_
      simp only [go_sem,mf29]
     refine bX (ACall.vc (first := []) (args := [_]) keys) ?_
     rintro yy H2 ⟨rfl,rfl⟩
     simp only [go_sem]
     have s2 : aG H1 (H1 ++ [some (Blk.row [AV.map mi])]) := aG.refl.app
     refine bX (ACall.vc (first := []) (args := [_]) (aDu (M := M) (mi := mi) (by simp [rd]) (s2.2 _ _ FI.f.map) (by omega))) ?_
     rintro kv H3 ⟨s3,hk⟩
     have F3 := (FI.f.to s2).to s3
     have lk := (SlI.use hk).1
     have bx3 := F3.box
     obtain ⟨ks,hks⟩ : ∃ ks,ks = fK (M.map aB.n) := ⟨_,rfl⟩
     rw [← hks] at hk lk
     simp only [go_sem,lk]
     obtain ⟨K,eK⟩ : ∃ K,K = H3.set h.length none := ⟨_,rfl⟩
     have hA3 := F3.sub.2 _ _ bA
     have K0 : K[h.length]? = some none := by rw [eK]; exact qF (aP hA3)
     have sK : aG K H3 := by rw [eK]; exact aG.msk
     have sBh : aG h K := by rw [eK]; exact (sB.trans F3.sub).setR (Nat.le_refl _)
     have lfb := F3.lf
     have lmi := F3.lm
     have Kfb : K[fb]? = some (some (.row [slG so g.length,.map mi])) := by rw [eK,qB (by omega)]; exact bx3
     have Kmi : K[mi]? = some (some (.map (eA M))) := by rw [eK,qB (by omega)]; exact F3.map
     have KE : K[h.length + 1]? = some (some (.row [.int .i64 0])) := by rw [eK,qB (by omega)]; exact F3.sub.2 _ _ bE
     obtain ⟨_,q,qi,qr⟩ := SlI.use hk
     have qK : ∀ j (hj : j < ks.length),rd w0 K (q.add j) = some (.int .i64 ks[j]) := fun j hj => by rw [eK]; exact aFE hA3 (fT (qr j hj))
     have ln : ks.length ≤ 220 := by rw [hks,(cP _).length_eq,List.length_map]; omega
     refine dB (S := aA × AV) (fun j s => [(4,.ptr (.own h.length 0)),(5,.ptr (.own (h.length + 1) 0)),(6,.ptr (.own fb 0)),(109,kv),(110,.int .i64 ks.length),(111,.int .i64 j)]) (fun _ s => s.1) (fun j s => Gro K s.1 6 j s.2 (((ks.take j).map fun n => ((aZ M n).getD (zT 0)).c).flatten) ∧ s.1[h.length]? = some (some (.row [s.2]))) ks.length (H3,.nilS) ⟨Gro.nil sK,hA3⟩ rfl rfl ?_ ?_
     · rintro j ⟨G,ov⟩ hj ⟨gr,bA4⟩ ih
       simp only at gr bA4 ih ⊢
       refine aJ aQ aES [4,5,6,109,110,111] L6_4.eq_1 ?_
       have e5 : (j : Int) < ks.length := by omega
       have r5 := gr.sub.rd (qK j hj)
       simp only [go_sem,e5,qi j hj,r5]
       refine dr_fp aQ [0,1,2,3,4,5,6,7,8,9] [o_ 115 (l_ 4),o_ 116 (m_ 6),o_ 117 (.nilck (.t 116)),o_ 118 (.addr (.t 117) 1),o_ 119 (l_ 118),o_ 120 (m_ 14),o_ 121 (.look (false,[true]) (.agg [(.int .i64 0),(.int .i64 0),(.int .i64 0),(.int .i64 0),(.int .i64 0),(.int .i64 0)]) false (.t 119) (.t 120))] [([(0,o_ 115 (l_ 4))],[o_ 122 (.bslice 6 [(.int .i64 0),(.int .i64 0),(.int .i64 0),(.int .i64 0),(.int .i64 0),(.int .i64 0)] 1 [(0,6,(.t 121))]),o_ 123 (.app 6 [(.int .i64 0),(.int .i64 0),(.int .i64 0),(.int .i64 0),(.int .i64 0),(.int .i64 0)] 48 (.t 115) (.t 122)),.op none none (.store (.t 4) (.t 123) 1)])] rfl rfl (by kernel_rfl) ?_
       have gfb := gr.sub.2 _ _ Kfb
       have gmi := gr.sub.2 _ _ Kmi
       have lk5 := uU gmi ks[j] (.agg [.int .i64 0,.int .i64 0,.int .i64 0,.int .i64 0,.int .i64 0,.int .i64 0]) false
       obtain ⟨tr,htr⟩ : ∃ tr,tr = (aZ M ks[j]).getD (zT 0) := ⟨_,rfl⟩
       have lk6 : xB G (false,[true]) (.agg [.int .i64 0,.int .i64 0,.int .i64 0,.int .i64 0,.int .i64 0,.int .i64 0]) false (.map mi) (.int .i64 ks[j]) = some (.agg tr.c) := by
        rw [lk5,htr]; cases aZ M ks[j] <;> rfl
       have co := gr.gro1
       have s1 : aG G (G ++ [some (Blk.row tr.c)]) := aG.refl.app
       obtain ⟨G2,ap,g2⟩ := ((gr.at1 bA4).app (L := [some (Blk.row tr.c)])).more (w0 := w0) (b := 48) (k := G.length) (x := tr.c) (f := true) (by simp) rfl rfl (by omega) (by omega)
       have gl : (G ++ [some (Blk.row tr.c)]).length = G.length + 1 := by simp
       rw [gl] at ap g2
       obtain ⟨g3,bA5⟩ := g2.unat K0
       simp only [aB.c] at ap
       simp only [go_sem,bA4,gfb,lk6,co.1,co.2,ap,bA5]
       refine ⟨(by unfold I64; omega),ih (G2.set h.length (some (.row [.sl (.own (G.length + 1) 0) (j + 1) 6 false])),_) ⟨?_,qF (aP bA5)⟩⟩
       have : ((ks.take (j + 1)).map fun n => ((aZ M n).getD (zT 0)).c).flatten = ((ks.take j).map fun n => ((aZ M n).getD (zT 0)).c).flatten ++ tr.c := by
        rw [List.take_add_one,qA hj,List.map_append,List.flatten_append,htr]; simp
       rw [this]
       exact g3.setN K0
     · rintro ⟨G,ov⟩ ⟨gr,bA4⟩
       simp only at gr bA4 ⊢
       refine aJ aQ aES [4,5,6,109,110,111] L6_4.eq_1 ?_
       have e5 : ¬ (ks.length : Int) < ks.length := Int.lt_irrefl _
       rw [List.take_length] at gr
       have gE := gr.sub.2 _ _ KE
       have co := gr.gro1
       have s4 : G.set h.length (some (.row [ov])) = G := wP bA4
       have s5 : G.set (h.length + 1) (some (.row [.int .i64 0])) = G := wP gE
       simp only [go_sem,e5,bA4,gE,co.1,co.2,s4,s5]
       refine finR _ _ ov 0 rfl rfl bA4 gE co.1 ⟨sBh.trans gr.sub,.inr (.inr ⟨c1,by rw [d1,d2]; rfl,.inr ⟨jX M,ov,by rw [hC,if_neg hl0,← hD,← rq]; rfl,rfl,?_⟩⟩)⟩
       have : (jX M).map aB.c = ks.map fun n => ((aZ M n).getD (zT 0)).c := by rw [jX,List.map_map,hks]; rfl
       rw [this]
       exact gr.sl (fun c hc => by obtain ⟨n,_,rfl⟩ := List.mem_map.1 hc; rfl) (by simp) (by decide)
end Go.Proofs.Ab
namespace Go.Proofs.Ab
open Go Go.Proofs
def dayI (l : List aH) (g : List (List Int)) (d : Nat) (n : Int) (i : Nat) : List bW := (g.zipIdx i).flatMap fun p => if n ∈ p.1 then [dS l p.2 d] else []
theorem aDs {u : bW} {M : List aB} {m n : Int} (hn : 0 ≤ n) : aZ (eJ u M m) n = if m = n then (aZ M n).map (gB · u) else aZ M n := by
 unfold eJ
 by_cases h0 : m < 0
 · rw [if_pos h0,if_neg (by omega)]
 · rw [if_neg h0]
   cases e : aZ M m with
   | none =>
    by_cases q : m = n
    · subst q; rw [if_pos rfl,e]; rfl
    · rw [if_neg q]
   | some x =>
    simp only
    have hx : (gB x u).n = m := (rB e : x.n = m)
    rw [iH,hx]
    by_cases q : m = n
    · subst q; rw [if_pos rfl,if_pos rfl,e]; rfl
    · rw [if_neg (fun w => q w.symm),if_neg q]
theorem aA0 {u : bW} {n : Int} (hn : 0 ≤ n) : ∀ {r : List Int} {M : List aB},aZ (lF u M r) n = (aZ M n).map fun x => ((r.filter fun m => decide (m = n)).map fun _ => u).foldl gB x
 | [],M => by rw [lF]; cases aZ M n <;> rfl
 | m :: r,M => by
  rw [lF,aA0 hn,aDs hn]
  by_cases q : m = n
  · subst q
    rw [if_pos rfl,List.filter_cons_of_pos (by simp)]
    cases aZ M m <;> rfl
  · rw [if_neg q,List.filter_cons_of_neg (by simpa using q)]
theorem aA2 {α β : Type} {u : β} : ∀ {l : List α},(l.map fun _ => u) = List.replicate l.length u
 | [] => rfl
 | _ :: l => by rw [List.map_cons,aA2]; rfl
theorem aDI {u : bW} {n : Int} (hn : 0 ≤ n) {r : List Int} {M : List aB} (ho : kO r) : aZ (lF u M r) n = (aZ M n).map fun x => (if n ∈ r then [u] else []).foldl gB x := by
 rw [aA0 hn,aA2,zV ho hn]
 split <;> rfl
theorem aBu {l : List aH} {d : Nat} {n : Int} (hn : 0 ≤ n) : ∀ {g : List (List Int)} {i : Nat} {M : List aB},(∀ x ∈ g,kO x) → aZ (jK l d i M g) n = (aZ M n).map fun x => (dayI l g d n i).foldl gB x
 | [],i,M,_ => by rw [jK]; cases aZ M n <;> rfl
 | r :: g,i,M,ho => by
  have e : dayI l (r :: g) d n i = (if n ∈ r then [dS l i d] else []) ++ dayI l g d n (i + 1) := by rw [dayI,List.zipIdx_cons,List.flatMap_cons]; rfl
  rw [jK,aBu hn fun x hx => ho x (by simp [hx]),aDI hn (ho r (by simp)),e]
  cases aZ M n with
  | none => rfl
  | some x => simp only [Option.map_some,List.foldl_append]
theorem aDq {u : bW} {M : List aB} {m n : Int} (hn : n < 0) : aZ (eJ u M m) n = aZ M n := by
 unfold eJ
 by_cases h0 : m < 0
 · rw [if_pos h0]
 · rw [if_neg h0]
   cases e : aZ M m with
   | none => rfl
   | some x =>
    simp only
    have hx : (gB x u).n = m := (rB e : x.n = m)
    rw [iH,hx,if_neg (by omega)]
theorem aAY {u : bW} {n : Int} (hn : n < 0) : ∀ {r : List Int} {M : List aB},aZ (lF u M r) n = aZ M n
 | [],_ => rfl
 | m :: r,M => by rw [lF,aAY hn,aDq hn]
theorem aBs {l : List aH} {d : Nat} {n : Int} (hn : n < 0) : ∀ {g : List (List Int)} {i : Nat} {M : List aB},aZ (jK l d i M g) n = aZ M n
 | [],_,_ => rfl
 | r :: g,i,M => by rw [jK,aBs hn,aAY hn]
def KN (M : List aB) : Prop := (M.map aB.n).Nodup
theorem aEq {M : List aB} {n : Int} : (aZ M n).isSome = true ↔ n ∈ M.map aB.n := by
 induction M with
 | nil => simp [aZ]
 | cons m M ih =>
  simp only [aZ,List.map_cons,List.mem_cons]
  by_cases q : m.n = n
  · simp [q]
  · rw [if_neg q,ih]
    exact ⟨.inr,fun h => by rcases h with h | h; exact absurd h.symm q; exact h⟩
theorem sP {x : aB} : ∀ {M : List aB},(eY M x).map aB.n = if x.n ∈ M.map aB.n then M.map aB.n else M.map aB.n ++ [x.n]
 | [] => rfl
 | m :: M => by
  by_cases q : m.n = x.n
  · simp [eY,q]
  · have ih := sP (x := x) (M := M)
    rw [eY,if_neg q,List.map_cons,ih]
    have : x.n ∈ (m :: M).map aB.n ↔ x.n ∈ M.map aB.n := by
     rw [List.map_cons,List.mem_cons]
     exact ⟨fun h => by rcases h with h | h; exact absurd h.symm q; exact h,.inr⟩
    by_cases w : x.n ∈ M.map aB.n
    · rw [if_pos w,if_pos (this.2 w)]; rfl
    · rw [if_neg w,if_neg fun h => w (this.1 h)]; rfl
theorem KN.put {M : List aB} (a : KN M) (x : aB) : KN (eY M x) := by
 unfold KN
 rw [sP]
 split
 · exact a
 · rename_i q
   rw [List.nodup_append]
   exact ⟨a,by simp,fun y hy z hz => by rw [List.mem_singleton] at hz; subst hz; exact fun e => q (e ▸ hy)⟩
theorem KN.step {M : List aB} (a : KN M) (u : bW) (m : Int) : KN (eJ u M m) := by
 unfold eJ
 split
 · exact a
 · split
   · exact a.put _
   · exact a
theorem KN.row {u : bW} : ∀ {r : List Int} {M : List aB},KN M → KN (lF u M r)
 | [],_,a => a
 | m :: r,M,a => KN.row (r := r) (a.step u m)
theorem KN.fly {l : List aH} {d : Nat} : ∀ {g : List (List Int)} {i : Nat} {M : List aB},KN M → KN (jK l d i M g)
 | [],_,_,a => a
 | _ :: g,i,_,a => KN.fly (g := g) (i := i + 1) a.row
theorem KN.know {M : List aB} (a : KN M) (n : Int) : KN (bS M n) := by
 unfold bS
 split
 · exact a.put _
 · exact a
theorem KN.knows : ∀ {r : List Int} {M : List aB},KN M → KN (r.foldl bS M)
 | [],_,a => a
 | n :: r,M,a => KN.knows (r := r) (a.know n)
theorem KN.init : ∀ {l : List aH} {M : List aB},KN M → KN (l.foldl (fun M t => t.ser.foldl bS M) M)
 | [],_,a => a
 | _ :: l,_,a => KN.init (l := l) a.knows
structure Jn (l : List aH) (sw : List aM) (f : Nat) (pre : List aM) (g : List (List Int)) (M : List aB) : Prop where
 go : goF (l.map aH.ser) pre = some g
 val : ∀ n,0 ≤ n → aZ M n = if isK l pre n = true then some ((iF l sw n f).foldl gB (zT n)) else none
 neg : ∀ n,n < 0 → aZ M n = none
 non : ∀ n,isK l pre n = false → iF l sw n f = []
 nd : KN M
 once : ∀ x ∈ g,kO x
theorem aEp {n : Int} : ∀ {pre : List aM} {f g : List (List Int)},goF f pre = some g → (∃ r ∈ g,n ∈ r) → (∃ r ∈ f,n ∈ r) ∨ pre.any (fun s => decide (s.serial = n)) = true
 | [],f,g,e,h => by rw [goF,Option.some.injEq] at e; exact .inl (e ▸ h)
 | s :: pre,f,g,e,h => by
  rw [goF] at e
  split at e
  · rcases aEp e h with ⟨r,hr,hm⟩ | q
    · rcases List.mem_or_eq_of_mem_set hr with hr | rfl
      · exact .inl ⟨r,hr,hm⟩
      · rcases List.mem_or_eq_of_mem_set hm with hm | rfl
        · refine .inl ⟨_,?_,hm⟩
          have : f.getD s.tail.toNat [] ≠ [] := fun e => by rw [e] at hm; cases hm
          by_cases hl : s.tail.toNat < f.length
          · rw [aS hl]; exact qG hl
          · exact absurd (by rw [List.getD_eq_getElem?_getD,List.getElem?_eq_none (by omega)]; rfl) this
        · exact .inr (by simp)
    · exact .inr (by rw [List.any_cons,q,Bool.or_true])
  · cases e
theorem aBl {l : List aH} {pre : List aM} {s : aM} {n : Int} : isK l (pre ++ [s]) n = (decide (s.serial = n) || isK l pre n) := by
 simp only [isK,List.any_append,List.any_cons,List.any_nil,Bool.or_false]
 cases (pre.any fun s => decide (s.serial = n)) <;> cases decide (s.serial = n) <;> rfl
theorem not_in {l : List aH} {pre : List aM} {g : List (List Int)} {n : Int} (e : goF (l.map aH.ser) pre = some g) (h : isK l pre n = false) : ∀ r ∈ g,n ∉ r := fun r hr hm => by
 rw [isK,Bool.or_eq_false_iff] at h
 rcases aEp e ⟨r,hr,hm⟩ with ⟨x,hx,hn⟩ | q
 · obtain ⟨t,ht,rfl⟩ := List.mem_map.1 hx
   have := h.2
   rw [List.any_eq_false] at this
   exact this t ht (by simpa using hn)
 · rw [h.1] at q; cases q
theorem xY {l : List aH} {g : List (List Int)} {d : Nat} {n : Int} (h : ∀ r ∈ g,n ∉ r) : cS l g d n = [] := by
 rw [cS,List.flatMap_eq_nil_iff]
 intro p hp
 rw [if_neg]
 refine h _ ?_
 obtain ⟨i,hi,e⟩ := List.getElem_of_mem hp
 rw [List.getElem_zipIdx] at e
 rw [← e]; exact qG _
theorem Jn.fly {l : List aH} {sw pre : List aM} {f : Nat} {g : List (List Int)} {M : List aB} (a : Jn l sw f pre g M) (hg : gD l sw f = g) : Jn l sw (f + 1) pre g (jK l f 0 M g) where
 go := a.go
 val := fun n hn => by
  rw [aBu hn a.once,a.val n hn,kB,hg]
  split
  · rw [List.foldl_append]; rfl
  · rfl
 neg := fun n hn => by rw [aBs hn]; exact a.neg n hn
 non := fun n hn => by rw [kB,hg,a.non n hn,xY (not_in a.go hn)]; rfl
 nd := a.nd.fly
 once := a.once
theorem Jn.put {l : List aH} {sw pre : List aM} {f : Nat} {g : List (List Int)} {M : List aB} (a : Jn l sw f pre g M) {s : aM} (hp : fW g s = true) : Jn l sw f (pre ++ [s]) (lK g s) (bS M s.serial) where
 go := by rw [aBr,a.go,Option.bind_some,goF,if_pos hp]; rfl
 val := fun n hn => by
  rw [iG,aBl]
  by_cases q : s.serial = n
  · subst q
    rw [decide_eq_true rfl,Bool.true_or,if_pos rfl]
    have := a.val s.serial hn
    cases e : isK l pre s.serial with
    | true =>
     rw [e,if_pos rfl] at this
     rw [if_neg (fun w => by have w := w.2.2; rw [this] at w; cases w),this]
    | false =>
     rw [e,if_neg (by simp)] at this
     rw [if_pos ⟨rfl,hn,by rw [this]; rfl⟩,a.non _ e]; rfl
  · rw [if_neg fun w => q w.1.symm,decide_eq_false q,Bool.false_or]; exact a.val n hn
 neg := fun n hn => by rw [iG,if_neg (by omega)]; exact a.neg n hn
 non := fun n hn => by rw [aBl,Bool.or_eq_false_iff] at hn; exact a.non n hn.2
 nd := a.nd.know _
 once := aDU a.once hp
theorem oA {s : aM} {r : List aM} (h : jC (s :: r)) : jC r ∧ ∀ x ∈ r,s.night ≤ x.night := by
 rw [jC,List.pairwise_cons] at h
 exact ⟨h.2,h.1⟩
theorem aA6 {l : List aH} {sw : List aM} {f d : Nat} : ∀ {sw' pre : List aM} {g : List (List Int)} {M : List aB},Jn l sw f pre g M → jC sw' → (∀ s ∈ sw',(d : Int) ≤ s.night) →
 (iE d sw' g M = none ∧ goF g sw' = none) ∨ ∃ a b g' M',sw' = a ++ b ∧ iE d sw' g M = some (b,g',M') ∧ goF g sw' = goF g' b ∧ Jn l sw f (pre ++ a) g' M' ∧ (∀ s ∈ a,s.night = d) ∧ ∀ s ∈ b,(d : Int) + 1 ≤ s.night
 | [],pre,g,M,j,_,_ => .inr ⟨[],[],g,M,rfl,rfl,rfl,by rw [List.append_nil]; exact j,by simp,by simp⟩
 | s :: r,pre,g,M,j,so,hd => by
  obtain ⟨sr,hr⟩ := oA so
  have h0 := hd s (by simp)
  by_cases q : s.night = d
  · cases p : fW g s with
    | false => exact .inl ⟨by simp [iE,q,p],by simp [goF,p]⟩
    | true =>
     have e1 : iE d (s :: r) g M = iE d r (lK g s) (bS M s.serial) := by simp [iE,q,p]
     have e2 : goF g (s :: r) = goF (lK g s) r := by simp [goF,p]
     rw [e1,e2]
     rcases aA6 (d := d) (j.put p) sr fun x hx => hd x (by simp [hx]) with h | ⟨a,b,g',M',h1,h2,h3,h4,h5,h6⟩
     · exact .inl h
     · refine .inr ⟨s :: a,b,g',M',by rw [h1]; rfl,h2,h3,by rw [List.append_assoc] at h4; exact h4,fun x hx => ?_,h6⟩
       rcases List.mem_cons.1 hx with rfl | hx
       · exact q
       · exact h5 x hx
  · refine .inr ⟨[],s :: r,g,M,rfl,by simp [iE,q],rfl,by rw [List.append_nil]; exact j,by simp,fun x hx => ?_⟩
    rcases List.mem_cons.1 hx with rfl | hx
    · omega
    · have := hr x hx; omega
theorem aDH {l : List aH} {sw : List aM} {D : Nat} : ∀ {m d : Nat} {pre sw' : List aM} {g : List (List Int)} {M : List aB},d + m = D → Jn l sw d pre g M → sw = pre ++ sw' → (∀ s ∈ pre,s.night < d) → (∀ s ∈ sw',(d : Int) ≤ s.night ∧ s.night < D) → jC sw' →
 (lE l m d sw' g M = none ∧ goF g sw' = none) ∨ ∃ g' M',lE l m d sw' g M = some M' ∧ goF g sw' = some g' ∧ Jn l sw D sw g' M'
 | 0,d,pre,sw',g,M,e,j,es,hp,hs,so => by
  obtain rfl : d = D := by omega
  obtain rfl : sw' = [] := List.eq_nil_iff_forall_not_mem.2 fun s h => by have := hs s h; omega
  rw [List.append_nil] at es
  subst es
  exact .inr ⟨g,M,rfl,rfl,j⟩
 | m + 1,d,pre,sw',g,M,e,j,es,hp,hs,so => by
  have hg : gD l sw d = g := by
   have : sw.filter (fun s => decide (s.night < (d : Int))) = pre := by
    rw [es,List.filter_append,List.filter_eq_self.2 fun s h => by simpa using hp s h,List.filter_eq_nil_iff.2 fun s h => by have := (hs s h).1; simp; omega,List.append_nil]
   rw [gD,eX,this,j.go]; rfl
  rw [lE]
  rcases aA6 (d := d) (j.fly hg) so fun s h => (hs s h).1 with h | ⟨a,b,g',M',h1,h2,h3,h4,h5,h6⟩
  · exact .inl ⟨by rw [h.1]; rfl,h.2⟩
  · rw [h2,h3]
    have hb : ∀ s ∈ b,s ∈ sw' := fun s h => by rw [h1]; simp [h]
    refine aDH (m := m) (d := d + 1) (by omega) h4 (by rw [es,h1,List.append_assoc]) (fun s h => ?_) (fun s h => ⟨by have := h6 s h; omega,(hs s (hb s h)).2⟩) ?_
    · rcases List.mem_append.1 h with h | h
      · have := hp s h; omega
      · have := h5 s h; omega
    · rw [h1] at so; exact (List.pairwise_append.1 so).2.1
theorem ACall.ofE {P : Program} {w0 : World} {h : aA} {f : FuncId} {args : List AV} {Q : AV → aA → Prop} (a : fU P w0 f args h Q fun _ _ => False) : ACall P w0 f args h Q :=
 ⟨a.1,fun m w vs s v b => (a.2 m w vs s v b).mono fun _ _ p => by
  rcases p with p | ⟨_,_,_,_,_,q⟩
  · exact p
  · exact q.elim⟩
theorem sY {n : Int} : ∀ {r : List Int} {M : List aB},aZ (r.foldl bS M) n = if (aZ M n).isSome = true then aZ M n else if 0 ≤ n ∧ n ∈ r then some (zT n) else none
 | [],M => by
  rw [List.foldl_nil]
  cases aZ M n with
  | none => simp
  | some x => rfl
 | m :: r,M => by
  rw [List.foldl_cons,sY,iG]
  by_cases q : n = m ∧ 0 ≤ m ∧ (aZ M m).isNone
  · rw [if_pos q]
    obtain ⟨rfl,q1,q2⟩ := q
    rw [Option.isNone_iff_eq_none] at q2
    simp [q1,q2]
  · rw [if_neg q]
    cases e : aZ M n with
    | some x => rfl
    | none =>
     simp only [Option.isSome_none,Bool.false_eq_true,if_false,List.mem_cons]
     by_cases w : 0 ≤ n ∧ n ∈ r
     · rw [if_pos w,if_pos ⟨w.1,.inr w.2⟩]
     · rw [if_neg w,if_neg]
       rintro ⟨w1,rfl | w2⟩
       · exact q ⟨rfl,w1,by rw [e]; rfl⟩
       · exact w ⟨w1,w2⟩
theorem qW {n : Int} : ∀ {l : List aH} {M : List aB},aZ (l.foldl (fun M t => t.ser.foldl bS M) M) n = if (aZ M n).isSome = true then aZ M n else if 0 ≤ n ∧ l.any (fun t => decide (n ∈ t.ser)) = true then some (zT n) else none
 | [],M => by
  rw [List.foldl_nil]
  cases aZ M n with
  | none => simp
  | some x => rfl
 | t :: l,M => by
  rw [List.foldl_cons,qW,sY,List.any_cons]
  cases e : aZ M n with
  | some x => rfl
  | none =>
   by_cases q : 0 ≤ n ∧ n ∈ t.ser
   · simp [q]
   · by_cases q0 : 0 ≤ n
     · have q1 : n ∉ t.ser := fun h => q ⟨q0,h⟩
       simp [q0,q1]
     · simp [q0]
theorem sN : ∀ {r acc : List Int},uF acc r = true → (∀ n ∈ r,-1 ≤ n ∧ n ≤ 1000) ∧ (∀ n ∈ r,0 ≤ n → n ∉ acc) ∧ kO r
 | [],_,_ => ⟨by simp,by simp,by simp [kO]⟩
 | n :: r,acc,h => by
  simp only [uF,Bool.and_eq_true,Bool.not_eq_true',Bool.and_eq_false_iff,decide_eq_false_iff_not] at h
  obtain ⟨⟨h1,h2⟩,h3⟩ := h
  obtain ⟨i1,i2,i3⟩ := sN h3
  rw [iX] at h1
  refine ⟨fun m hm => ?_,fun m hm h0 => ?_,?_⟩
  · rcases List.mem_cons.1 hm with rfl | hm
    · exact h1
    · exact i1 m hm
  · rcases List.mem_cons.1 hm with rfl | hm
    · rcases h2 with h2 | h2
      · exact absurd h0 h2
      · exact h2
    · exact fun q => i2 m hm h0 (by simp [q])
  · unfold kO at i3 ⊢
    by_cases h0 : 0 ≤ n
    · rw [List.filter_cons_of_pos (by simpa using h0),List.nodup_cons]
      refine ⟨fun q => ?_,i3⟩
      exact i2 n (List.mem_filter.1 q).1 h0 (by simp)
    · rw [List.filter_cons_of_neg (by simpa using h0)]; exact i3
theorem lA : ∀ {l : List aH} {n0 : Nat} {acc : List Int},fR n0 acc l = true → ∀ t ∈ l,(∀ n ∈ t.ser,-1 ≤ n ∧ n ≤ 1000) ∧ kO t.ser
 | [],_,_,_,t,ht => by cases ht
 | x :: l,n0,acc,h,t,ht => by
  simp only [fR,Bool.and_eq_true] at h
  rcases List.mem_cons.1 ht with rfl | ht
  · have := sN h.2.1; exact ⟨this.1,this.2.2⟩
  · exact lA h.2.2 t ht
theorem Jn.init {l : List aH} {sw : List aM} (k : TOK l) : Jn l sw 0 [] (l.map aH.ser) (eH l) where
 go := rfl
 val := fun n hn => by
  unfold eH
  rw [qW]
  simp [aZ,isK,hn,iF]
 neg := fun n hn => by
  unfold eH
  rw [qW,if_neg (by simp [aZ]),if_neg (by omega)]
 non := fun n _ => rfl
 nd := KN.init List.nodup_nil
 once := fun x hx => by
  obtain ⟨t,ht,rfl⟩ := List.mem_map.1 hx
  exact (lA k.e t ht).2
theorem sL : ∀ {sw : List aM},(∀ i,i + 1 < sw.length → (sw.getD i oC).night ≤ (sw.getD (i + 1) oC).night) → jC sw
 | [],_ => List.Pairwise.nil
 | [s],_ => List.pairwise_singleton _ _
 | s :: x :: r,h => by
  have ih := sL (sw := x :: r) fun i hi => h (i + 1) (by simp only [List.length_cons] at hi ⊢; omega)
  have h0 := h 0 (by simp)
  simp only [List.getD_cons_zero,List.getD_cons_succ] at h0
  obtain ⟨_,h1⟩ := oA ih
  refine List.pairwise_cons.2 ⟨fun y hy => ?_,ih⟩
  rcases List.mem_cons.1 hy with rfl | hy
  · exact h0
  · have := h1 y hy; omega
theorem uD {l : List aH} {sw : List aM} (h : cW l sw = true) : jC sw := sL fun i hi => by
 have := List.all_eq_true.1 h (i + 1) (List.mem_range.2 hi)
 rw [Bool.and_eq_true,oK,Bool.or_eq_true,decide_eq_true_eq,decide_eq_true_eq] at this
 rcases this.2 with q | q
 · omega
 · exact q
theorem iB {l : List aH} {sw : List aM} (h : cW l sw = true) {s : aM} (hs : s ∈ sw) : iC l s = true := by
 obtain ⟨i,hi,rfl⟩ := List.getElem_of_mem hs
 have := List.all_eq_true.1 h i (List.mem_range.2 hi)
 rw [Bool.and_eq_true,aS hi] at this
 exact this.1
theorem lC {l : List aH} (k : TOK l) {s : aM} (h : iC l s = true) : 0 ≤ s.night ∧ s.night < bD l ∧ s.serial ≤ 1000 := by
 simp only [iC,Bool.and_eq_true,iX] at h
 have ht : s.tail.toNat < l.length := by omega
 have h2 := h.2.2.2
 rw [aS ht,(k.day (qG ht)).1] at h2
 omega
theorem isK_le {l : List aH} (k : TOK l) {sw : List aM} (h : cW l sw = true) {n : Int} (hn : isK l sw n = true) : n ≤ 1000 := by
 rw [isK,Bool.or_eq_true,List.any_eq_true,List.any_eq_true] at hn
 rcases hn with ⟨s,hs,e⟩ | ⟨t,ht,e⟩
 · have := (lC k (iB h hs)).2.2
   rw [decide_eq_true_eq] at e
   omega
 · rw [decide_eq_true_eq] at e
   exact ((lA k.e t ht).1 n e).2
theorem aFz {l : List aH} {sw : List aM} (k : TOK l) (h : cW l sw = true) : (lE l (bD l) 0 sw (l.map aH.ser) (eH l) = none ∧ eX l sw (bD l) = none) ∨ ∃ g' M',lE l (bD l) 0 sw (l.map aH.ser) (eH l) = some M' ∧ eX l sw (bD l) = some g' ∧ Jn l sw (bD l) sw g' M' := by
 have e : eX l sw (bD l) = goF (l.map aH.ser) sw := by
  rw [eX,List.filter_eq_self.2 fun s hs => by have := (lC k (iB h hs)).2.1; simpa using this]
 rw [e]
 exact aDH (m := bD l) (d := 0) (pre := []) (by omega) (Jn.init k) rfl (by simp) (fun s hs => by have := lC k (iB h hs); omega) (uD h)
theorem Jn.keys {l : List aH} {sw : List aM} (k : TOK l) (h : cW l sw = true) {g : List (List Int)} {M : List aB} (j : Jn l sw (bD l) sw g M) : fK (M.map aB.n) = eG l sw 1001 := by
 refine aGW (N := 1000) j.nd fun n => ?_
 rw [← aEq]
 by_cases h0 : 0 ≤ n
 · rw [j.val n h0]
   cases e : isK l sw n with
   | true => have := isK_le k h e; simp [h0]; omega
   | false => simp
 · rw [j.neg n (by omega)]; simp [h0]
theorem Jn.traces {l : List aH} {sw : List aM} (k : TOK l) (h : cW l sw = true) {g : List (List Int)} {M : List aB} (j : Jn l sw (bD l) sw g M) : jX M = (eG l sw 1001).map (kZ l sw) := by
 rw [jX,j.keys k h]
 refine List.map_congr_left fun n hn => ?_
 simp only [eG,List.mem_filter,List.mem_map] at hn
 obtain ⟨⟨i,_,rfl⟩,e⟩ := hn
 rw [j.val _ (by omega),e,if_pos rfl,Option.getD_some,kZ]
 have h1 := @qR l sw (i : Int) (bD l)
 have h2 : bD l * l.length ≤ 30 * 4 := Nat.mul_le_mul k.d k.n
 exact (uX (n := (i : Int)) (k := 0) (by simp [BdT,zT]) (by omega) (by omega) (wX k (Nat.le_refl _))).1
theorem wF {l : List aH} {sw : List aM} (k : TOK l) (h : cW l sw = true) : hC l sw = iO l sw := by
 by_cases hl : l = []
 · subst hl
   have : sw = [] := List.eq_nil_iff_forall_not_mem.2 fun s hs => by
    have := (sD.of (iB h hs)); have h1 := this.t0; have h2 := this.t1; simp at h2; omega
   subst this
   rw [hC,if_pos rfl,iO]
   have : eG [] [] 1001 = [] := by rw [eG,List.filter_eq_nil_iff]; intro n _; simp [isK]
   rw [this]; rfl
 · rw [hC,if_neg hl,iO]
   rcases aFz k h with ⟨h1,h2⟩ | ⟨g,M,h1,h2,j⟩
   · rw [h1,h2]; rfl
   · rw [h1,h2,Option.map_some,Option.map_some,j.traces k h]
end Go.Proofs.Ab

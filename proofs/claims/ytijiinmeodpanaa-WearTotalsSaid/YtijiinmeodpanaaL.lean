/- The own layer under the proofs of this seat, part L: what calls of the program come to on an abstract heap. No condition. -/
import Derived.Test.YtijiinmeodpanaaK
set_option linter.unusedSimpArgs false
set_option linter.unusedVariables false
namespace Go.Proofs.Ab
open Go Go.Proofs
variable {w0 : World} {h : aA}
attribute [local irreducible] ACall bD dI bQ dH rvC lp rg dr ex un rv
def SC.snd : SC → SC
 | .seq _ y => y
 | x => x
theorem aFJ {a b : AV} {Q : FrameMode → aA → Prop} (q : Q .returning h) : mF Try.prog w0 25 [a,b] h .returning Q := by
 refine nM (mf := mf25.er) aBt aEq (qE rfl) (rest := (SC.snd mf25.body).er) rfl (.inl ⟨rfl,rfl,rfl⟩) fun hb ha => bY aW _ (by decide) (bT ?_)
 rw [← List.append_nil h]
 simp only [go_sem,mf25,SC.snd,SF.er]
 exact ⟨.inl trivial,⟨_,rfl⟩,by rw [List.append_nil]; exact q⟩
theorem aFK {i ia ib : Nat} {x y : List AV} {Q : FrameMode → aA → Prop} (h1 : h[ia]? = some (some (.row x))) (h2 : h[ib]? = some (some (.row y))) (hx : x.length = 1) (hy : y.length = 1) (n1 : ia ≠ ib)
 (q : Q (.panicking [{ v := (impV i).val,recovered := true }]) (((h ++ [some (Blk.row [.int .i64 i])]).set ia (some (Blk.row [.nilS]))).set ib (some (Blk.row [.int .i64 7])))) :
 mF Try.prog w0 25 [.ptr (.own ia 0),.ptr (.own ib 0)] h (.panicking (pan (impV i))) Q := by
 refine nM (mf := mf25.er) aBt aEq (qE rfl) (rest := (SC.snd mf25.body).er) rfl (.inr ⟨rfl,rfl,rfl⟩) fun hb ha => bY aW _ (by decide) (bT ?_)
 have l1 := aQ h1
 have l2 := aQ h2
 have b1 : ∀ L : aA,(h ++ L)[ia]? = some (some (.row x)) := fun L => aE h1
 have b2 : ∀ L : aA,((h ++ L).set ia (some (.row [.nilS])))[ib]? = some (some (.row y)) := fun L => by rw [qB n1]; exact aE h2
 have dx : x.drop 1 = [] := List.drop_eq_nil_of_le (by omega)
 have dy : y.drop 1 = [] := List.drop_eq_nil_of_le (by omega)
 simp only [go_sem,mf25,SC.snd,SF.er,impV,b1,b2,hx,hy,dx,dy]
 exact ⟨.inl trivial,⟨_,rfl⟩,q⟩
theorem Rows.nbox {H : aA} {ov u : AV} {so fb mi : Nat} {c : List AV} {g : List (List Int)} (a : Rows h H ov so c g) (hb : H[fb]? = some (some (.row [u,.map mi]))) (e : g ≠ []) : fb ≠ so := fun q => by
 have h1 := (a.lst e).2
 rw [q,h1] at hb
 simp only [Option.some.injEq,Blk.row.injEq] at hb
 have hl := a.len
 rw [hb] at hl
 obtain ⟨y,h2,h3⟩ := a.own 1 _ (qA (by simp at hl; omega))
 rw [hb] at h2
 simp at h2
 subst h2
 rcases h3 with ⟨_,h3⟩ | ⟨_,_,h3,_⟩ <;> cases h3
theorem Rows.setBox {H : aA} {ov u : AV} {so fb mi : Nat} {c : List AV} {g : List (List Int)} {r : Option Blk} (a : Rows h H ov so c g) (hb : H[fb]? = some (some (.row [u,.map mi]))) (hf : h.length ≤ fb) : Rows h (H.set fb r) ov so c g := by
 refine ⟨a.sub.setR hf,a.val,fun e => ⟨(a.lst e).1,?_⟩,a.len,fun j x hx => ?_,a.dis⟩
 · rw [qB (a.nbox hb e)]; exact (a.lst e).2
 · obtain ⟨y,h1,h2⟩ := a.own j x hx
   refine ⟨y,h1,iU.to h2 fun b e _ => ?_⟩
   rw [qB]
   · exact e
   · intro q
     rw [← q,hb] at e
     simp only [Option.some.injEq,Blk.row.injEq] at e
     exact oM e.symm
theorem dT.rows {H : aA} {fb mi so : Nat} {c : List AV} {g : List (List Int)} {M : List aD} (a : dT h H fb mi so c g M) : Rows h H (slG so g.length) so c g := ⟨a.sub,rfl,a.lst,a.len,a.own,a.dis⟩
theorem Rows.fleet {H : aA} {fb mi so : Nat} {c : List AV} {g : List (List Int)} {M : List aD} (a : Rows h H (slG so g.length) so c g) (lf : h.length ≤ fb) (lm : h.length ≤ mi) (hb : H[fb]? = some (some (.row [slG so g.length,.map mi]))) (hm : H[mi]? = some (some (.map (eC M)))) : dT h H fb mi so c g M :=
 ⟨a.sub,lf,lm,hb,a.lst,a.len,a.own,a.dis,hm⟩
def eH (l : List aG) : List aD := l.foldl (fun M t => t.ser.foldl bS M) []
def iM (d : Nat) : List aJ → List (List Int) → List aD → Option (List aJ × List (List Int) × List aD)
 | [],g,M => some ([],g,M)
 | s :: r,g,M => if s.night = d then (if fY g s then iM d r (lM g s) (bS M s.serial) else none) else some (s :: r,g,M)
def lH (l : List aG) : Nat → Nat → List aJ → List (List Int) → List aD → Option (List aD)
 | 0,_,_,_,M => some M
 | n + 1,d,sw,g,M => (iM d sw g (jR l d 0 M g)).bind fun p => lH l n (d + 1) p.1 p.2.1 p.2.2
def kF (M : List aD) : List aD := (fL (M.map aD.n)).map fun n => (bC M n).getD (zT 0)
def iV (l : List aG) (sw : List aJ) : Option (List aD) := if l = [] then some [] else (lH l (aO l) 0 sw (l.map aG.ser) (eH l)).map kF
def rQ (w0 : World) (h : aA) (l : List aG) (sw : List aJ) (y : AV) (H : aA) : Prop := aH h H ∧
 ((4 < l.length ∨ 200 < sw.length) ∧ y = .tup [.nilS,.int .i64 3] ∨
  ¬ (4 < l.length ∨ 200 < sw.length) ∧ (fT l && cG l sw) = false ∧ y = .tup [.nilS,.int .i64 2] ∨
  ¬ (4 < l.length ∨ 200 < sw.length) ∧ (fT l && cG l sw) = true ∧ (iV l sw = none ∧ y = .tup [.nilS,.int .i64 7] ∨ ∃ ts v,iV l sw = some ts ∧ y = .tup [v,.int .i64 0] ∧ Sl w0 H 6 v (ts.map aD.c)))
end Go.Proofs.Ab
namespace Go.Proofs.Ab
open Go Go.Proofs
theorem qT {x : aD} : ∀ {M : List aD},(eZ M x).length = if (bC M x.n).isSome then M.length else M.length + 1
 | [] => rfl
 | m :: M => by
  by_cases e : m.n = x.n
  · simp [eZ,bC,e]
  · have ih := qT (x := x) (M := M)
    simp only [eZ,bC,if_neg e,List.length_cons,ih]
    split <;> rfl
theorem xV {M : List aD} {n : Int} : (bS M n).length ≤ M.length + 1 := by
 unfold bS
 split
 · rw [qT]; split <;> omega
 · omega
theorem aDE {u : aM} {M : List aD} {n : Int} : (eJ u M n).length = M.length := by
 unfold eJ
 split
 · rfl
 · split
   · rename_i x hx
     rw [qT,show (gF x u).n = n from (rG hx : x.n = n),hx]; rfl
   · rfl
theorem aBb {u : aM} : ∀ {r : List Int} {M : List aD},(lI u M r).length = M.length
 | [],_ => rfl
 | n :: r,M => by rw [lI,aBb,aDE]
theorem aBG {l : List aG} {d : Nat} : ∀ {g : List (List Int)} {i : Nat} {M : List aD},(jR l d i M g).length = M.length
 | [],_,_ => rfl
 | r :: g,i,M => by rw [jR,aBG,aBb]
theorem iN {M : List aD} {n k : Int} : bC (bS M n) k = if k = n ∧ 0 ≤ n ∧ (bC M n).isNone then some (zT n) else bC M k := by
 unfold bS
 by_cases c : (bC M n).isNone ∧ 0 ≤ n
 · rw [if_pos c,iO]
   by_cases e : k = n
   · rw [if_pos (show k = (zT n).n from e),if_pos ⟨e,c.2,c.1⟩]
   · rw [if_neg (show ¬ k = (zT n).n from e),if_neg fun q => e q.1]
 · rw [if_neg c,if_neg fun q => c ⟨q.2.2,q.2.1⟩]
theorem TB.know {k : Nat} {M : List aD} (a : TB k M) (n : Int) : TB k (bS M n) := fun m x hx => by
 rw [iN] at hx
 split at hx
 · cases hx; simp [zT]
 · exact a m x hx
theorem nT {M : List aD} {n k : Int} (a : (bC M k).isSome = true) : (bC (bS M n) k).isSome = true := by
 rw [iN]
 split
 · rfl
 · exact a
theorem tJ {M : List aD} {n : Int} (h0 : 0 ≤ n) : (bC (bS M n) n).isSome = true := by
 rw [iN]
 split
 · rfl
 · rename_i c
   cases e : bC M n with
   | some x => rfl
   | none => exact absurd ⟨rfl,h0,by rw [e]; rfl⟩ c
theorem xT {k : Nat} : ∀ {r : List Int} {M : List aD},TB k M → TB k (r.foldl bS M)
 | [],_,a => a
 | n :: r,M,a => xT (r := r) (a.know n)
theorem tG : ∀ {r : List Int} {M : List aD},(r.foldl bS M).length ≤ M.length + r.length
 | [],_ => Nat.le_refl _
 | n :: r,M => by
  have := tG (r := r) (M := bS M n)
  have := xV (M := M) (n := n)
  simp only [List.foldl_cons,List.length_cons]
  omega
theorem lR {k : Int} : ∀ {r : List Int} {M : List aD},(bC M k).isSome = true → (bC (r.foldl bS M) k).isSome = true
 | [],_,a => a
 | n :: r,M,a => lR (r := r) (nT (n := n) a)
theorem tE {k : Int} (h0 : 0 ≤ k) : ∀ {r : List Int} {M : List aD},k ∈ r → (bC (r.foldl bS M) k).isSome = true
 | n :: r,M,h => by
  rcases List.mem_cons.1 h with e | e
  · subst e; exact lR (r := r) (tJ h0)
  · exact tE (r := r) h0 e
theorem Cov.mono {g : List (List Int)} {M N : List aD} (a : Cov g M) (m : ∀ k,(bC M k).isSome = true → (bC N k).isSome = true) : Cov g N := fun r hr n hn h0 => m n (a r hr n hn h0)
theorem Cov.put {g : List (List Int)} {M : List aD} (a : Cov g M) (s : aJ) : Cov (lM g s) (bS M s.serial) := fun r hr n hn h0 => by
 rcases List.mem_or_eq_of_mem_set hr with hr | rfl
 · exact nT (a r hr n hn h0)
 · rcases List.mem_or_eq_of_mem_set hn with hn | rfl
   · refine nT (a _ ?_ n hn h0)
     have : g.getD s.tail.toNat [] ≠ [] := fun e => by rw [e] at hn; cases hn
     by_cases hl : s.tail.toNat < g.length
     · rw [aR hl]; exact qG hl
     · exact absurd (by rw [List.getD_eq_getElem?_getD,List.getElem?_eq_none (by omega)]; rfl) this
   · exact tJ h0
theorem aEB {l : List aG} : ∀ {M : List aD} {k : Nat},TB k M → TB k (l.foldl (fun M t => t.ser.foldl bS M) M) := by
 induction l with
 | nil => exact fun a => a
 | cons t l ih => exact fun a => ih (xT a)
theorem aHm {l : List aG} : TB 0 (eH l) := aEB fun n x hx => by cases hx
theorem tK {k : Int} : ∀ {l : List aG} {M : List aD},(bC M k).isSome = true → (bC (l.foldl (fun M t => t.ser.foldl bS M) M) k).isSome = true
 | [],_,a => a
 | _ :: l,_,a => tK (l := l) (lR a)
theorem yG : ∀ {l : List aG} {M : List aD},Cov (l.map aG.ser) (l.foldl (fun M t => t.ser.foldl bS M) M)
 | [],_,r,hr,_,_,_ => by cases hr
 | t :: l,M,r,hr,n,hn,h0 => by
  rcases List.mem_cons.1 hr with e | e
  · subst e; exact tK (l := l) (tE h0 hn)
  · exact yG (l := l) r e n hn h0
theorem yF : ∀ {l : List aG} {M : List aD},(∀ t ∈ l,t.ser.length ≤ 5) → (l.foldl (fun M t => t.ser.foldl bS M) M).length ≤ M.length + 5 * l.length
 | [],_,_ => Nat.le_refl _
 | t :: l,M,h => by
  have := yF (l := l) (M := t.ser.foldl bS M) fun x hx => h x (by simp [hx])
  have := tG (r := t.ser) (M := M)
  have := h t (by simp)
  simp only [List.foldl_cons,List.length_cons]
  omega
theorem TOK.fly {l : List aG} (k : TOK l) {g : List (List Int)} (s : cW l g) {d : Nat} (hd : d < aO l) : FlyOK l g d := by
 have hl := k.n
 have gl := s.len
 refine ⟨by omega,by omega,fun x hx => ?_,fun t ht => ?_,fun t ht => (k.day ht).2.2.2⟩
 · obtain ⟨i,hi,rfl⟩ := List.getElem_of_mem hx
   rw [s.at_ hi,aR (by omega)]
   have := (k.day (qG (show i < l.length by omega))).2.2.1
   omega
 · rw [(k.day ht).1]; exact hd
theorem TOK.put {l : List aG} (k : TOK l) {g : List (List Int)} (s : cW l g) {x : aJ} (hx : vS l x) : PutOK g x := by
 have hl := k.n
 have gl := s.len
 have h1 := hx.t0
 have h2 := hx.t1
 refine ⟨by omega,s.short k.short,h1,by omega,hx.s0,?_⟩
 have hk : x.tail.toNat < g.length := by omega
 rw [aR hk,s.at_ hk]
 exact hx.s1
end Go.Proofs.Ab
namespace Go.Proofs.Ab
open Go Go.Proofs
variable {w0 : World} {h : aA}
attribute [local irreducible] ACall bD dI bQ dH rvC lp rg dr ex un rv
theorem uM {P : Program} {r : Option Nat} {nt Z : Nat} {c : SC} {fr : Fr} {Q : Exit → Fr → aA → Prop} (e : ex P w0 r nt Z Q c [] fr (h ++ [])) : sx P w0 r nt Z c fr h Q := by
 rw [List.append_nil] at e; exact bT e
@[go_sem] theorem dQ_n {P : Program} {nt : Nat} {rs : List RV} {h0 : aA} {Q : AV → aA → Prop} {X : List PanicEntry → aA → Prop} {y : MC} {fr : Fr} : dQ P w0 nt rs h0 Q X y .normal fr h = EvD P w0 nt rs h0 Q X y fr h := (rfl)
@[go_sem] theorem dQ_r {P : Program} {nt : Nat} {rs : List RV} {h0 : aA} {Q : AV → aA → Prop} {X : List PanicEntry → aA → Prop} {y : MC} {fr : Fr} : dQ P w0 nt rs h0 Q X y .ret fr h = rP w0 rs Q X .ret fr h := (rfl)
theorem aF0 {H : aA} {i : Nat} {p : Pl} {k : IntKind} {n : Int} (hi : H[i]? = some (some (.row [.nilS]))) (r : rd w0 H p = some (.int k n)) : rd w0 (H.set i none) p = some (.int k n) := by
 cases p with
 | old a => exact r
 | own b o =>
  simp only [rd] at r ⊢
  by_cases e : b = i
  · subst e; rw [hi] at r
    cases o with
    | zero => simp at r
    | succ o => simp at r
  · rw [qB (fun q => e q.symm)]; exact r
theorem aHF {v sv : AV} {l : List aG} {sw : List aJ} (hv : eE w0 h v l) (hw : fW w0 h sv sw) (hs : jK l) (hn : sw.length ≤ 1000) :
 fX Try.prog w0 8 [v,sv] h (rQ w0 h l sw) (fun _ _ => False) := by
 refine zK (mf := mf8.er) mf8_ok mf8_b (qE rfl) fun hb ha => aAU (x := .reg _) (y := .seq (.seq _ _) _) aW rfl (uM ?_)
 have hlen := hv.len
 have hlw := hw.len
 have hll := hs.1
 simp only [go_sem]
 have rn : ∀ (fr : Fr) (G : aA) (b : Nat) (k : Int),fr.get 4 = .ptr (.own b 0) → fr.get 5 = .ptr (.own (b + 1) 0) → G[b]? = some (some (.row [.nilS])) → G[b + 1]? = some (some (.row [.int .i64 k])) → fM w0 mf8.er.res fr G = some (.tup [.nilS,.int .i64 k]) := fun fr G b k f4 f5 g1 g2 => by
  simp [mf8,SF.er,fM,jP,f4,f5,rdv,rd,g1,g2]
 refine aAU (x := .seq _ _) (y := .seq (.seq _ _) _) aW (by decide) (uM ?_)
 by_cases c1 : 4 < l.length ∨ 200 < sw.length
 · by_cases c2 : 4 < l.length
   · have c2' : (4 : Int) < l.length := by omega
     simp only [go_sem,hlen,hlw,c2']
     exact ⟨_,rn _ _ h.length 3 rfl rfl (by simp) (by simp),aH.refl.app,.inl ⟨c1,rfl⟩⟩
   · have c2' : ¬ (4 : Int) < l.length := by omega
     have c3' : (200 : Int) < sw.length := by omega
     simp only [go_sem,hlen,hlw,c2',c3']
     exact ⟨_,rn _ _ h.length 3 rfl rfl (by simp) (by simp),aH.refl.app,.inl ⟨c1,rfl⟩⟩
 have c2' : ¬ (4 : Int) < l.length := by omega
 have c3' : ¬ (200 : Int) < sw.length := by omega
 simp only [go_sem,hlen,hlw,c2',c3']
 refine aAU (x := .seq _ _) (y := .seq (.reg _) _) aW (by decide) (uM ?_)
 obtain ⟨B,eB⟩ : ∃ B,B = h ++ [some (Blk.row [AV.nilS]),some (Blk.row [AV.int IntKind.i64 0])] := ⟨_,rfl⟩
 have sB : aH h B := by rw [eB]; exact aH.refl.app
 have lB : B.length = h.length + 2 := by rw [eB]; simp
 have bA : B[h.length]? = some (some (.row [.nilS])) := by rw [eB]; simp
 have bE : B[h.length + 1]? = some (some (.row [.int .i64 0])) := by rw [eB]; simp
 rw [← eB,List.append_nil]
 simp only [go_sem]
 refine aV (aDo (hv.sub sB) hs).v ?_
 have bad : (fT l && cG l sw) = false → ∀ fr : Fr,fr.get 4 = .ptr (.own h.length 0) → fr.get 5 = .ptr (.own (h.length + 1) 0) → rP w0 mf8.er.res (rQ w0 h l sw) (fun _ _ => False) .ret fr ((B.set h.length (some (.row [.nilS]))).set (h.length + 1) (some (.row [.int .i64 2]))) := fun e fr f4 f5 =>
  ⟨_,rn _ _ h.length 2 f4 f5 (by rw [qB (by omega),qF (by omega)]) (by rw [qF (by simp; omega)]),(sB.setR (by omega)).setR (by omega),.inr (.inl ⟨c1,e,rfl⟩)⟩
 have st1 : ∀ X : Option Blk,(B.set h.length X)[h.length + 1]? = some (some (.row [.int .i64 0])) := fun X => by rw [qB (by omega)]; exact bE
 cases d1 : fT l with
 | false =>
  simp only [go_sem,bA,st1]
  exact bad (by rw [d1]; rfl) _ rfl rfl
 | true =>
 simp only [go_sem]
 refine aV (zQ (hv.sub sB) (hw.sub sB) hs hn).v ?_
 cases d2 : cG l sw with
 | false =>
  simp only [go_sem,bA,st1]
  exact bad (by rw [d1,d2]; rfl) _ rfl rfl
 | true =>
 simp only [go_sem]
 refine aHN (l := [_]) aW (by decide) ?_
 show ∃ g capt,AV.fn (Fn.func 25) [] [.ptr (.own h.length 0),.ptr (.own (h.length + 1) 0)] = .fn (.func g) [] capt ∧ sx Try.prog w0 none _ B.length _ _ B _
 refine ⟨25,_,rfl,uM ?_⟩
 have hT : TOK l := ⟨by omega,d1⟩
 have hbl : B.length = B.length := rfl
 simp only [go_sem,hlen]
 obtain ⟨fb,efb⟩ : ∃ fb,fb = B.length + 1 := ⟨_,rfl⟩
 obtain ⟨mi,emi⟩ : ∃ mi,mi = B.length := ⟨_,rfl⟩
 have F0 : dT B (B ++ [some (Blk.map []),some (Blk.row [AV.nilS,AV.map B.length])]) fb mi 0 [] [] [] := by
  rw [efb,emi]
  exact ⟨aH.refl.app,by omega,by omega,by simp [slG],fun e => absurd rfl e,rfl,fun j x e => by simp at e,fun i j b n n' f f' e => by simp at e,by simp [eC]⟩
 have nfb : AV.ptr (.own (B.length + 1) 0) = .ptr (.own fb 0) := by rw [efb]
 rw [nfb]
 have finR : ∀ (fr : Fr) (G : aA) (x : AV) (k : Int),fr.get 4 = .ptr (.own h.length 0) → fr.get 5 = .ptr (.own (h.length + 1) 0) → G[h.length]? = some (some (.row [x])) → G[h.length + 1]? = some (some (.row [.int .i64 k])) → Ab.one x = true → rQ w0 h l sw (.tup [x,.int .i64 k]) G →
  defK Try.prog w0 mf8.er.res 25 [.ptr (.own h.length 0),.ptr (.own (h.length + 1) 0)] (rQ w0 h l sw) (fun _ _ => False) .ret fr G := fun fr G x k f4 f5 g1 g2 o1 q =>
  aFJ ⟨_,by simp [mf8,SF.er,fM,jP,f4,f5,rdv,rd,g1,g2],q⟩
 have finP : ∀ (fr : Fr) (G : aA) (i : Nat),fr.get 4 = .ptr (.own h.length 0) → fr.get 5 = .ptr (.own (h.length + 1) 0) → aH B G → iV l sw = none →
  defK Try.prog w0 mf8.er.res 25 [.ptr (.own h.length 0),.ptr (.own (h.length + 1) 0)] (rQ w0 h l sw) (fun _ _ => False) (.panic (pan (impV i))) fr G := fun fr G i f4 f5 sG tn => by
  have g1 := sG.2 _ _ bA
  have g2 := sG.2 _ _ bE
  have l1 := aQ g2
  refine aFK g1 g2 rfl rfl (by omega) ⟨_,?_,?_,.inr (.inr ⟨c1,by rw [d1,d2]; rfl,.inl ⟨tn,rfl⟩⟩)⟩
  · exact rn _ _ _ _ f4 f5 (by rw [qB (by omega),qF (by simp; omega)]) (by rw [qF (by simp; omega)])
  · exact (((sB.trans sG).app).setR (by omega)).setR (by omega)
 refine dM (S := aA × Nat × List AV) (fun j _ => [(0,v),(1,sv),(4,.ptr (.own h.length 0)),(5,.ptr (.own (h.length + 1) 0)),(6,.ptr (.own fb 0)),(36,v),(37,.int .i64 l.length),(38,.int .i64 j)]) (fun _ s => s.1) (fun j s => dT B s.1 fb mi s.2.1 s.2.2 ((l.take j).map aG.ser) (eH (l.take j))) l.length (_,0,[]) F0 rfl rfl ?_ ?_
 · rintro j ⟨H,so,c⟩ hj F ih
   simp only at F ih ⊢
   refine aN aW aE7 [0,1,4,5,6,36,37,38] L8_1.eq_1 ?_
   have e1 : (j : Int) < l.length := by omega
   obtain ⟨p,dv,tv,i1,r1,ra,rb,hd,hsv⟩ := hv.at_ hj
   have shH := sB.trans F.sub
   have r1' := shH.rdn (uY r1)
   obtain ⟨t,ht⟩ : ∃ t,t = l[j] := ⟨_,rfl⟩
   have htm := hs.2 t (ht ▸ qG hj)
   have cd := hd.one
   have cs := hsv.s.one
   rw [← ht] at hsv
   simp only [go_sem,e1,i1,r1',cd.1,cs.1]
   obtain ⟨H1,eH1⟩ : ∃ H1,H1 = H ++ [some (Blk.row [dv,tv])] := ⟨_,rfl⟩
   have s1 : aH H H1 := by rw [eH1]; exact aH.refl.app
   have b8 : H1[H.length]? = some (some (.row [dv,tv])) := by rw [eH1]; simp
   rw [← eH1]
   have F1 := F.to s1
   have bx1 := F1.box
   refine dr_fp aW [0,1,2,3,4,5,6,7,8,9,10,11,12] [o_ 42 (m_ 6),o_ 43 (m_ 6),o_ 44 (.nilck (.t 43)),o_ 45 (.addr (.t 44) 0),o_ 46 (l_ 45),o_ 47 (.addr (.t 8) 1),o_ 48 (l_ 47),.call (some 49) none (f_ 26) [(.t 48)]] [([(4,o_ 46 (l_ 45))],[o_ 50 (.bslice 1 [.nilS] 1 [(0,1,(.t 49))]),o_ 51 (.app 1 [.nilS] 24 (.t 46) (.t 50)),o_ 52 (.nilck (.t 42)),o_ 53 (.addr (.t 52) 0),.op none none (.store (.t 53) (.t 51) 1)])] rfl rfl (by kernel_rfl) ?_
   simp only [go_sem,b8,bx1]
   refine cH (ACall.vc (first := []) (args := [_]) (aDq t.ser tv (hsv.sub (shH.trans s1)) (by omega))) ?_
   rintro y H2 ⟨s2,oy⟩
   have F2 := F1.to s2
   have bx2 := F2.box
   have o1 := oy.one
   have gn : ((l.take j).map aG.ser).length = j := by simp; omega
   have oy' : iU H1 (H2 ++ [some (Blk.row [y])]) y t.ser := iU.to oy fun b e _ => aE e
   have hk : (H2 ++ [some (Blk.row [y])])[H2.length]? = some (some (.row [y])) := by rw [qI (Nat.le_refl _),Nat.sub_self]; rfl
   obtain ⟨G,ap,RG,kp,lG⟩ := F1.rows.push (w0 := w0) (f := true) s2.app oy' hk (by omega)
   have lH2 : (H2 ++ [some (Blk.row [y])]).length = H2.length + 1 := by simp
   rw [lH2] at ap RG lG
   rw [gn] at ap RG bx1 bx2
   have R2 := F1.rows.to (s2.app (L := [some (Blk.row [y])]))
   have bx3 : (H2 ++ [some (Blk.row [y])])[fb]? = some (some (.row [slG so j,.map mi])) := aE bx2
   have mp3 : (H2 ++ [some (Blk.row [y])])[mi]? = some (some (.map (eC (eH (l.take j))))) := aE F2.map
   have bxG : G[fb]? = some (some (.row [slG so j,.map mi])) := kp fb _ (fun e => R2.nbox bx3 e) bx3
   have mpG : G[mi]? = some (some (.map (eC (eH (l.take j))))) := kp mi _ (fun e q => by
    have := (R2.lst e).2
    rw [← q,mp3] at this
    cases this) mp3
   have b8G : G[H.length]? = some (some (.row [dv,tv])) := kp _ _ (fun e q => by
    have := (F.lst e).2
    have := aQ this
    omega) (aE (s2.2 _ _ b8))
   simp only [go_sem,bx2,gn,o1.1,o1.2,ap,bxG]
   obtain ⟨G1,eG1⟩ : ∃ G1,G1 = G.set fb (some (Blk.row [AV.sl (Pl.own (H2.length + 1) 0) (j + 1) 1 false,AV.map mi])) := ⟨_,rfl⟩
   rw [← eG1]
   have fbl := aQ F.box
   have fbG := aQ bxG
   have b8G1 : G1[H.length]? = some (some (.row [dv,tv])) := by rw [eG1,qB (by omega)]; exact b8G
   have gl1 : (l.take (j + 1)).map aG.ser = (l.take j).map aG.ser ++ [t.ser] := by
    rw [List.take_add_one,qA hj,List.map_append,ht]; rfl
   have nfm : fb ≠ mi := fun q => by rw [q,mpG] at bxG; cases bxG
   have RS := RG.setBox bxG F.lf (r := some (Blk.row [AV.sl (Pl.own (H2.length + 1) 0) (j + 1) 1 false,AV.map mi]))
   rw [← eG1,← gl1] at RS
   have gn1 : ((l.take (j + 1)).map aG.ser).length = j + 1 := by simp; omega
   have FG := Rows.fleet (by rw [gn1]; exact RS) F.lf F.lm (by rw [gn1,eG1]; exact qF fbG) (by rw [eG1,qB nfm]; exact mpG)
   have ltv := (SlI.use hsv.s).1
   simp only [go_sem,b8G1,ltv]
   refine dM (S := aA) (fun k _ => [(0,v),(1,sv),(4,.ptr (.own h.length 0)),(5,.ptr (.own (h.length + 1) 0)),(6,.ptr (.own fb 0)),(36,v),(37,.int .i64 l.length),(38,.int .i64 j),(55,tv),(56,.int .i64 t.ser.length),(57,.int .i64 k)]) (fun _ s => s) (fun k s => dT B s fb mi (H2.length + 1) (c ++ [y]) ((l.take (j + 1)).map aG.ser) ((t.ser.take k).foldl bS (eH (l.take j)))) t.ser.length G1 FG rfl rfl ?_ ?_
   · rintro k H3 hk F3 ih2
     refine aN aW aE8 [0,1,4,5,6,36,37,38,55,56,57] L8_0.eq_1 ?_
     have e2 : (k : Int) < t.ser.length := by omega
     obtain ⟨q,i3,r3,r3'⟩ := (hsv.sub (sB.trans F3.sub)).s.at_ hk
     simp only [go_sem,e2,i3,r3,r3']
     refine cH (ACall.vc (first := []) (args := [_,_]) (aEw F3 t.ser[k])) ?_
     rintro yy H4 ⟨F4,_⟩
     simp only [go_sem]
     exact ⟨(by unfold I64; omega),ih2 H4 (by rw [List.take_add_one (l := t.ser),qA hk,List.foldl_append]; exact F4)⟩
   · rintro H3 F3
     refine aN aW aE8 [0,1,4,5,6,36,37,38,55,56,57] L8_0.eq_1 ?_
     have e2 : ¬ (t.ser.length : Int) < t.ser.length := Int.lt_irrefl _
     simp only [go_sem,e2]
     refine ⟨(by unfold I64; omega),ih (H3,H2.length + 1,c ++ [y]) ?_⟩
     rw [List.take_length] at F3
     have : eH (l.take (j + 1)) = t.ser.foldl bS (eH (l.take j)) := by
      rw [eH,List.take_add_one,qA hj,List.foldl_append,ht]; rfl
     rw [this]
     exact F3
 · rintro ⟨H,so,c⟩ F
   simp only at F ⊢
   rw [List.take_length] at F
   refine aN aW aE7 [0,1,4,5,6,36,37,38] L8_1.eq_1 ?_
   have e2 : ¬ (l.length : Int) < l.length := Int.lt_irrefl _
   by_cases hl0 : l = []
   · have e3 : (l.length : Int) = 0 := by rw [hl0]; rfl
     have sBH := sB.trans F.sub
     have h4 := F.sub.2 _ _ bA
     have h5 : ∀ X,(H.set h.length X)[h.length + 1]? = some (some (.row [.int .i64 0])) := fun X => by rw [qB (by omega)]; exact F.sub.2 _ _ bE
     simp only [go_sem,e2,hlen,e3,h4,h5]
     refine finR _ _ .nilS 0 rfl rfl ?_ ?_ rfl ⟨((sB.trans F.sub).setR (by omega)).setR (by omega),.inr (.inr ⟨c1,by rw [d1,d2]; rfl,.inr ⟨[],.nilS,by rw [iV,if_pos hl0],rfl,.inl ⟨rfl,rfl⟩⟩⟩)⟩
     · rw [qB (by omega),qF (aQ h4)]
     · exact qF (by have := aQ (h5 none); simpa using this)
   have e3 : ¬ (l.length : Int) = 0 := by have : l.length ≠ 0 := fun e => hl0 (List.eq_nil_of_length_eq_zero e); omega
   have lp0 : 0 < l.length := by omega
   have sBH := sB.trans F.sub
   obtain ⟨p0,dv0,sv0,i0,_,r0a,_,hd0,_⟩ := (hv.sub sBH).at_ (j := 0) lp0
   have hdays0 : aO l = l[0].days.length := by rw [aO,aR]
   have ld0 := hd0.len
   rw [← hdays0] at ld0
   obtain ⟨D,hD⟩ : ∃ D,D = aO l := ⟨_,rfl⟩
   have hD30 : D ≤ 30 := hD ▸ hT.d
   rw [← hD] at ld0
   have r0a' := fU r0a
   simp only [go_sem,e2,hlen,e3,i0,r0a',ld0]
   have hok : ∀ s ∈ sw,vS l s := fun s hs => by
    obtain ⟨i,hi,rfl⟩ := List.getElem_of_mem hs
    have := List.all_eq_true.1 d2 i (List.mem_range.2 hi)
    rw [Bool.and_eq_true,aR hi] at this
    exact vS.of this.1
   have ini : (eH l).length ≤ 20 := by
    have := yF (l := l) (M := []) fun t ht => (hT.day ht).2.2.1
    have := hT.n
    simp only [List.length_nil] at *
    unfold eH
    omega
   have sh0 := cW.start l
   refine dM (S := aA × Nat × List (List Int) × List aD) (fun d s => [(0,v),(1,sv),(4,.ptr (.own h.length 0)),(5,.ptr (.own (h.length + 1) 0)),(6,.ptr (.own fb 0)),(11,.int .i64 s.2.1),(73,.int .i64 D),(74,.int .i64 d)]) (fun _ s => s.1)
    (fun d s => aAS B fb mi so c s.2.2.1 (400 * d) s.1 s.2.2.2 ∧ cW l s.2.2.1 ∧ s.2.1 ≤ sw.length ∧ s.2.2.2.length ≤ 20 + s.2.1 ∧ lH l (D - d) d (sw.drop s.2.1) s.2.2.1 s.2.2.2 = lH l D 0 sw (l.map aG.ser) (eH l)) D (H,0,l.map aG.ser,eH l) ⟨⟨F,aHm,yG⟩,sh0,Nat.zero_le _,ini,rfl⟩ rfl rfl ?_ ?_
   · rintro d ⟨H1,nx,g,M⟩ hd ⟨FI,sh,hnx,ml,rq⟩ ih
     simp only at FI sh hnx ml rq ih ⊢
     refine aN aW aE6 [0,1,4,5,6,11,73,74] L8_3.eq_1 ?_
     have e4 : (d : Int) < D := by omega
     simp only [go_sem,e4]
     refine cH (ACall.vc (first := []) (args := [_,_,_]) (fly_c (hv.sub sB) FI (hT.fly sh (hD ▸ hd)) (by omega) (by omega))) ?_
     rintro yy H2 FJ
     have gl := sh.len
     have ln4 := hT.n
     have FJ' : aAS B fb mi so c g (400 * (d + 1)) H2 (jR l d 0 M g) := ⟨FJ.f,fun n x hx => by have := FJ.b n x hx; omega,FJ.c⟩
     obtain ⟨m,hm⟩ : ∃ m,D - d = m + 1 := ⟨D - d - 1,by omega⟩
     rw [hm,lH] at rq
     simp only [go_sem]
     refine lp_ind (S := aA × Nat × List (List Int) × List aD) (fun s => [(0,v),(1,sv),(4,.ptr (.own h.length 0)),(5,.ptr (.own (h.length + 1) 0)),(6,.ptr (.own fb 0)),(11,.int .i64 s.2.1),(12,.int .i64 d),(73,.int .i64 D),(74,.int .i64 d)]) (fun s => s.1) (fun s => sw.length - s.2.1)
      (fun s => aAS B fb mi so c s.2.2.1 (400 * (d + 1)) s.1 s.2.2.2 ∧ cW l s.2.2.1 ∧ s.2.1 ≤ sw.length ∧ s.2.2.2.length ≤ 20 + s.2.1 ∧ ((iM d (sw.drop s.2.1) s.2.2.1 s.2.2.2).bind fun p => lH l m (d + 1) p.1 p.2.1 p.2.2) = lH l D 0 sw (l.map aG.ser) (eH l)) (H2,nx,g,jR l d 0 M g) ⟨FJ',sh,hnx,by rw [aBG]; exact ml,rq⟩ rfl rfl ?_
     clear rq FJ FJ' FI sh hnx ml yy gl
     rintro ⟨H3,nx,g,M⟩ ⟨FI,sh,hnx,ml,rq⟩ ih2
     simp only at FI sh hnx ml rq ih2 ⊢
     refine aN aW L8_2_g [0,1,4,5,6,11,12,73,74] L8_2.eq_1 ?_
     have hm' : D - (d + 1) = m := by omega
     have stop : iM d (sw.drop nx) g M = some (sw.drop nx,g,M) → lH l (D - (d + 1)) (d + 1) (sw.drop nx) g M = lH l D 0 sw (l.map aG.ser) (eH l) := fun e => by
      rw [e] at rq; rw [hm']; exact rq
     by_cases hx : nx = sw.length
     · have e5 : ¬ (nx : Int) < sw.length := by omega
       simp only [go_sem,e5,hlw]
       exact ⟨(by unfold I64; omega),ih (H3,nx,g,M) ⟨FI,sh,hnx,ml,stop (by rw [List.drop_eq_nil_of_le (by omega)]; rfl)⟩⟩
     have e5 : (nx : Int) < sw.length := by omega
     have nxl : nx < sw.length := by omega
     obtain ⟨p,i1,r1,r1'⟩ := (hw.sub (sB.trans FI.f.sub)).at_ nxl
     obtain ⟨s,hs'⟩ : ∃ s,s = sw[nx] := ⟨_,rfl⟩
     have hsm : s ∈ sw := hs' ▸ qG nxl
     rw [← hs'] at r1 r1'
     have dr : sw.drop nx = s :: sw.drop (nx + 1) := by rw [List.drop_eq_getElem_cons nxl,← hs']
     rw [dr,iM] at rq
     have rn0 : rd w0 H3 (p.add 0) = some (.int .i64 s.night) := eY r1' rfl
     by_cases c5 : s.night = d
     · rw [if_pos c5] at rq
       have pc := put_c (w0 := w0) FI.f nx s (hT.put sh (hok s hsm))
       have sc : s.c = [.int .i64 d,.int .i64 s.tail,.int .i64 s.slot,.int .i64 s.serial] := by rw [aJ.c,c5]
       rw [sc] at pc
       simp only [go_sem,e5,hlw,i1,rn0,c5,r1']
       refine aD0 (show cZ Try.prog w0 (.fn (.func 29) [] []) [_,_,_] H3 _ _ from pc) ?_ ?_
       · rintro yy H4 ⟨pk,F4⟩
         rw [if_pos pk] at rq
         simp only [go_sem]
         exact ⟨(by unfold I64; omega),ih2 (H4,nx + 1,lM g s,bS M s.serial) ⟨⟨F4,FI.b.know _,FI.c.put s⟩,sh.put s,nxl,(by have := xV (M := M) (n := s.serial); show (bS M s.serial).length ≤ 20 + (nx + 1); omega),rq⟩ (show sw.length - (nx + 1) < sw.length - nx by omega)⟩
       · rintro ch H4 ⟨rfl,pk,s4⟩
         rw [if_neg (by rw [pk]; simp)] at rq
         simp only [go_sem]
         exact finP _ _ _ rfl rfl s4 (by rw [iV,if_neg hl0,← hD,← rq]; rfl)
     · have c5' : (s.night == (d : Int)) = false := by simpa using c5
       simp only [go_sem,e5,hlw,i1,rn0,c5']
       exact ⟨(by unfold I64; omega),ih (H3,nx,g,M) ⟨FI,sh,hnx,ml,stop (by rw [dr,iM,if_neg c5])⟩⟩
   · rintro ⟨H1,nx,g,M⟩ ⟨FI,sh,hnx,ml,rq⟩
     simp only at FI sh hnx ml rq ⊢
     refine aN aW aE6 [0,1,4,5,6,11,73,74] L8_3.eq_1 ?_
     have e4 : ¬ (D : Int) < D := Int.lt_irrefl _
     rw [Nat.sub_self,lH] at rq
     have bx1 := FI.f.box
     have bx2 := bx1
     simp only [go_sem,e4,bx1]
     have keys : ACall Try.prog w0 31 [.map mi] H1 fun y G => y = .fn (.func 62) [] [.ptr (.own H1.length 0)] ∧ G = H1 ++ [some (Blk.row [.map mi])] := by
      refine cB aW aGT mf31_b mf31_g (qE rfl) fun hb ha => bT ?_
      simp only [go_sem,mf31]
     refine cH (ACall.vc (first := []) (args := [_]) keys) ?_
     rintro yy H2 ⟨rfl,rfl⟩
     simp only [go_sem]
     have s2 : aH H1 (H1 ++ [some (Blk.row [AV.map mi])]) := aH.refl.app
     refine cH (ACall.vc (first := []) (args := [_]) (aDH (M := M) (mi := mi) (by simp [rd]) (s2.2 _ _ FI.f.map) (by omega))) ?_
     rintro kv H3 ⟨s3,hk⟩
     have F3 := (FI.f.to s2).to s3
     have lk := (SlI.use hk).1
     have bx3 := F3.box
     obtain ⟨ks,hks⟩ : ∃ ks,ks = fL (M.map aD.n) := ⟨_,rfl⟩
     rw [← hks] at hk lk
     simp only [go_sem,lk]
     obtain ⟨K,eK⟩ : ∃ K,K = H3.set h.length none := ⟨_,rfl⟩
     have hA3 := F3.sub.2 _ _ bA
     have K0 : K[h.length]? = some none := by rw [eK]; exact qF (aQ hA3)
     have sK : aH K H3 := by rw [eK]; exact aH.msk
     have sBh : aH h K := by rw [eK]; exact (sB.trans F3.sub).setR (Nat.le_refl _)
     have lfb := F3.lf
     have lmi := F3.lm
     have Kfb : K[fb]? = some (some (.row [slG so g.length,.map mi])) := by rw [eK,qB (by omega)]; exact bx3
     have Kmi : K[mi]? = some (some (.map (eC M))) := by rw [eK,qB (by omega)]; exact F3.map
     have KE : K[h.length + 1]? = some (some (.row [.int .i64 0])) := by rw [eK,qB (by omega)]; exact F3.sub.2 _ _ bE
     obtain ⟨_,q,qi,qr⟩ := SlI.use hk
     have qK : ∀ j (hj : j < ks.length),rd w0 K (q.add j) = some (.int .i64 ks[j]) := fun j hj => by rw [eK]; exact aF0 hA3 (fU (qr j hj))
     have ln : ks.length ≤ 220 := by rw [hks,(cR _).length_eq,List.length_map]; omega
     refine dM (S := aA × AV) (fun j s => [(4,.ptr (.own h.length 0)),(5,.ptr (.own (h.length + 1) 0)),(6,.ptr (.own fb 0)),(109,kv),(110,.int .i64 ks.length),(111,.int .i64 j)]) (fun _ s => s.1) (fun j s => Gro K s.1 6 j s.2 (((ks.take j).map fun n => ((bC M n).getD (zT 0)).c).flatten) ∧ s.1[h.length]? = some (some (.row [s.2]))) ks.length (H3,.nilS) ⟨Gro.nil sK,hA3⟩ rfl rfl ?_ ?_
     · rintro j ⟨G,ov⟩ hj ⟨gr,bA4⟩ ih
       simp only at gr bA4 ih ⊢
       refine aN aW aE5 [4,5,6,109,110,111] L8_4.eq_1 ?_
       have e5 : (j : Int) < ks.length := by omega
       have r5 := gr.sub.rd (qK j hj)
       simp only [go_sem,e5,qi j hj,r5]
       refine dr_fp aW [0,1,2,3,4,5,6,7,8,9] [o_ 115 (l_ 4),o_ 116 (m_ 6),o_ 117 (.nilck (.t 116)),o_ 118 (.addr (.t 117) 1),o_ 119 (l_ 118),o_ 120 (m_ 14),o_ 121 (.look (false,[true]) (.agg [(.int .i64 0),(.int .i64 0),(.int .i64 0),(.int .i64 0),(.int .i64 0),(.int .i64 0)]) false (.t 119) (.t 120))] [([(0,o_ 115 (l_ 4))],[o_ 122 (.bslice 6 [(.int .i64 0),(.int .i64 0),(.int .i64 0),(.int .i64 0),(.int .i64 0),(.int .i64 0)] 1 [(0,6,(.t 121))]),o_ 123 (.app 6 [(.int .i64 0),(.int .i64 0),(.int .i64 0),(.int .i64 0),(.int .i64 0),(.int .i64 0)] 48 (.t 115) (.t 122)),.op none none (.store (.t 4) (.t 123) 1)])] rfl rfl (by kernel_rfl) ?_
       have gfb := gr.sub.2 _ _ Kfb
       have gmi := gr.sub.2 _ _ Kmi
       have lk5 := vC gmi ks[j] (.agg [.int .i64 0,.int .i64 0,.int .i64 0,.int .i64 0,.int .i64 0,.int .i64 0]) false
       obtain ⟨tr,htr⟩ : ∃ tr,tr = (bC M ks[j]).getD (zT 0) := ⟨_,rfl⟩
       have lk6 : xQ G (false,[true]) (.agg [.int .i64 0,.int .i64 0,.int .i64 0,.int .i64 0,.int .i64 0,.int .i64 0]) false (.map mi) (.int .i64 ks[j]) = some (.agg tr.c) := by
        rw [lk5,htr]; cases bC M ks[j] <;> rfl
       have co := gr.gro1
       have s1 : aH G (G ++ [some (Blk.row tr.c)]) := aH.refl.app
       obtain ⟨G2,ap,g2⟩ := ((gr.at1 bA4).app (L := [some (Blk.row tr.c)])).more (w0 := w0) (b := 48) (k := G.length) (x := tr.c) (f := true) (by simp) rfl rfl (by omega) (by omega)
       have gl : (G ++ [some (Blk.row tr.c)]).length = G.length + 1 := by simp
       rw [gl] at ap g2
       obtain ⟨g3,bA5⟩ := g2.unat K0
       simp only [aD.c] at ap
       simp only [go_sem,bA4,gfb,lk6,co.1,co.2,ap,bA5]
       refine ⟨(by unfold I64; omega),ih (G2.set h.length (some (.row [.sl (.own (G.length + 1) 0) (j + 1) 6 false])),_) ⟨?_,qF (aQ bA5)⟩⟩
       have : ((ks.take (j + 1)).map fun n => ((bC M n).getD (zT 0)).c).flatten = ((ks.take j).map fun n => ((bC M n).getD (zT 0)).c).flatten ++ tr.c := by
        rw [List.take_add_one,qA hj,List.map_append,List.flatten_append,htr]; simp
       rw [this]
       exact g3.setN K0
     · rintro ⟨G,ov⟩ ⟨gr,bA4⟩
       simp only at gr bA4 ⊢
       refine aN aW aE5 [4,5,6,109,110,111] L8_4.eq_1 ?_
       have e5 : ¬ (ks.length : Int) < ks.length := Int.lt_irrefl _
       rw [List.take_length] at gr
       have gE := gr.sub.2 _ _ KE
       have co := gr.gro1
       have s4 : G.set h.length (some (.row [ov])) = G := wY bA4
       have s5 : G.set (h.length + 1) (some (.row [.int .i64 0])) = G := wY gE
       simp only [go_sem,e5,bA4,gE,co.1,co.2,s4,s5]
       refine finR _ _ ov 0 rfl rfl bA4 gE co.1 ⟨sBh.trans gr.sub,.inr (.inr ⟨c1,by rw [d1,d2]; rfl,.inr ⟨kF M,ov,by rw [iV,if_neg hl0,← hD,← rq]; rfl,rfl,?_⟩⟩)⟩
       have : (kF M).map aD.c = ks.map fun n => ((bC M n).getD (zT 0)).c := by rw [kF,List.map_map,hks]; rfl
       rw [this]
       exact gr.sl (fun c hc => by obtain ⟨n,_,rfl⟩ := List.mem_map.1 hc; rfl) (by simp) (by decide)
end Go.Proofs.Ab
namespace Go.Proofs.Ab
open Go Go.Proofs
def dayI (l : List aG) (g : List (List Int)) (d : Nat) (n : Int) (i : Nat) : List aM := (g.zipIdx i).flatMap fun p => if n ∈ p.1 then [dA l p.2 d] else []
theorem aDF {u : aM} {M : List aD} {m n : Int} (hn : 0 ≤ n) : bC (eJ u M m) n = if m = n then (bC M n).map (gF · u) else bC M n := by
 unfold eJ
 by_cases h0 : m < 0
 · rw [if_pos h0,if_neg (by omega)]
 · rw [if_neg h0]
   cases e : bC M m with
   | none =>
    by_cases q : m = n
    · subst q; rw [if_pos rfl,e]; rfl
    · rw [if_neg q]
   | some x =>
    simp only
    have hx : (gF x u).n = m := (rG e : x.n = m)
    rw [iO,hx]
    by_cases q : m = n
    · subst q; rw [if_pos rfl,if_pos rfl,e]; rfl
    · rw [if_neg (fun w => q w.symm),if_neg q]
theorem aBc {u : aM} {n : Int} (hn : 0 ≤ n) : ∀ {r : List Int} {M : List aD},bC (lI u M r) n = (bC M n).map fun x => ((r.filter fun m => decide (m = n)).map fun _ => u).foldl gF x
 | [],M => by rw [lI]; cases bC M n <;> rfl
 | m :: r,M => by
  rw [lI,aBc hn,aDF hn]
  by_cases q : m = n
  · subst q
    rw [if_pos rfl,List.filter_cons_of_pos (by simp)]
    cases bC M m <;> rfl
  · rw [if_neg q,List.filter_cons_of_neg (by simpa using q)]
theorem aBe {α β : Type} {u : β} : ∀ {l : List α},(l.map fun _ => u) = List.replicate l.length u
 | [] => rfl
 | _ :: l => by rw [List.map_cons,aBe]; rfl
theorem aDV {u : aM} {n : Int} (hn : 0 ≤ n) {r : List Int} {M : List aD} (ho : iF r) : bC (lI u M r) n = (bC M n).map fun x => (if n ∈ r then [u] else []).foldl gF x := by
 rw [aBc hn,aBe,aAh ho hn]
 split <;> rfl
theorem aBH {l : List aG} {d : Nat} {n : Int} (hn : 0 ≤ n) : ∀ {g : List (List Int)} {i : Nat} {M : List aD},(∀ x ∈ g,iF x) → bC (jR l d i M g) n = (bC M n).map fun x => (dayI l g d n i).foldl gF x
 | [],i,M,_ => by rw [jR]; cases bC M n <;> rfl
 | r :: g,i,M,ho => by
  have e : dayI l (r :: g) d n i = (if n ∈ r then [dA l i d] else []) ++ dayI l g d n (i + 1) := by rw [dayI,List.zipIdx_cons,List.flatMap_cons]; rfl
  rw [jR,aBH hn fun x hx => ho x (by simp [hx]),aDV hn (ho r (by simp)),e]
  cases bC M n with
  | none => rfl
  | some x => simp only [Option.map_some,List.foldl_append]
theorem aDD {u : aM} {M : List aD} {m n : Int} (hn : n < 0) : bC (eJ u M m) n = bC M n := by
 unfold eJ
 by_cases h0 : m < 0
 · rw [if_pos h0]
 · rw [if_neg h0]
   cases e : bC M m with
   | none => rfl
   | some x =>
    simp only
    have hx : (gF x u).n = m := (rG e : x.n = m)
    rw [iO,hx,if_neg (by omega)]
theorem aBa {u : aM} {n : Int} (hn : n < 0) : ∀ {r : List Int} {M : List aD},bC (lI u M r) n = bC M n
 | [],_ => rfl
 | m :: r,M => by rw [lI,aBa hn,aDD hn]
theorem aBF {l : List aG} {d : Nat} {n : Int} (hn : n < 0) : ∀ {g : List (List Int)} {i : Nat} {M : List aD},bC (jR l d i M g) n = bC M n
 | [],_,_ => rfl
 | r :: g,i,M => by rw [jR,aBF hn,aBa hn]
def KN (M : List aD) : Prop := (M.map aD.n).Nodup
theorem aEE {M : List aD} {n : Int} : (bC M n).isSome = true ↔ n ∈ M.map aD.n := by
 induction M with
 | nil => simp [bC]
 | cons m M ih =>
  simp only [bC,List.map_cons,List.mem_cons]
  by_cases q : m.n = n
  · simp [q]
  · rw [if_neg q,ih]
    exact ⟨.inr,fun h => by rcases h with h | h; exact absurd h.symm q; exact h⟩
theorem sW {x : aD} : ∀ {M : List aD},(eZ M x).map aD.n = if x.n ∈ M.map aD.n then M.map aD.n else M.map aD.n ++ [x.n]
 | [] => rfl
 | m :: M => by
  by_cases q : m.n = x.n
  · simp [eZ,q]
  · have ih := sW (x := x) (M := M)
    rw [eZ,if_neg q,List.map_cons,ih]
    have : x.n ∈ (m :: M).map aD.n ↔ x.n ∈ M.map aD.n := by
     rw [List.map_cons,List.mem_cons]
     exact ⟨fun h => by rcases h with h | h; exact absurd h.symm q; exact h,.inr⟩
    by_cases w : x.n ∈ M.map aD.n
    · rw [if_pos w,if_pos (this.2 w)]; rfl
    · rw [if_neg w,if_neg fun h => w (this.1 h)]; rfl
theorem KN.put {M : List aD} (a : KN M) (x : aD) : KN (eZ M x) := by
 unfold KN
 rw [sW]
 split
 · exact a
 · rename_i q
   rw [List.nodup_append]
   exact ⟨a,by simp,fun y hy z hz => by rw [List.mem_singleton] at hz; subst hz; exact fun e => q (e ▸ hy)⟩
theorem KN.step {M : List aD} (a : KN M) (u : aM) (m : Int) : KN (eJ u M m) := by
 unfold eJ
 split
 · exact a
 · split
   · exact a.put _
   · exact a
theorem KN.row {u : aM} : ∀ {r : List Int} {M : List aD},KN M → KN (lI u M r)
 | [],_,a => a
 | m :: r,M,a => KN.row (r := r) (a.step u m)
theorem KN.fly {l : List aG} {d : Nat} : ∀ {g : List (List Int)} {i : Nat} {M : List aD},KN M → KN (jR l d i M g)
 | [],_,_,a => a
 | _ :: g,i,_,a => KN.fly (g := g) (i := i + 1) a.row
theorem KN.know {M : List aD} (a : KN M) (n : Int) : KN (bS M n) := by
 unfold bS
 split
 · exact a.put _
 · exact a
theorem KN.knows : ∀ {r : List Int} {M : List aD},KN M → KN (r.foldl bS M)
 | [],_,a => a
 | n :: r,M,a => KN.knows (r := r) (a.know n)
theorem KN.init : ∀ {l : List aG} {M : List aD},KN M → KN (l.foldl (fun M t => t.ser.foldl bS M) M)
 | [],_,a => a
 | _ :: l,_,a => KN.init (l := l) a.knows
structure Jn (l : List aG) (sw : List aJ) (f : Nat) (pre : List aJ) (g : List (List Int)) (M : List aD) : Prop where
 go : goF (l.map aG.ser) pre = some g
 val : ∀ n,0 ≤ n → bC M n = if isK l pre n = true then some ((cX l sw n f).foldl gF (zT n)) else none
 neg : ∀ n,n < 0 → bC M n = none
 non : ∀ n,isK l pre n = false → cX l sw n f = []
 nd : KN M
 once : ∀ x ∈ g,iF x
theorem aAt {n : Int} : ∀ {pre : List aJ} {f g : List (List Int)},goF f pre = some g → (∃ r ∈ g,n ∈ r) → (∃ r ∈ f,n ∈ r) ∨ pre.any (fun s => decide (s.serial = n)) = true
 | [],f,g,e,h => by rw [goF,Option.some.injEq] at e; exact .inl (e ▸ h)
 | s :: pre,f,g,e,h => by
  rw [goF] at e
  split at e
  · rcases aAt e h with ⟨r,hr,hm⟩ | q
    · rcases List.mem_or_eq_of_mem_set hr with hr | rfl
      · exact .inl ⟨r,hr,hm⟩
      · rcases List.mem_or_eq_of_mem_set hm with hm | rfl
        · refine .inl ⟨_,?_,hm⟩
          have : f.getD s.tail.toNat [] ≠ [] := fun e => by rw [e] at hm; cases hm
          by_cases hl : s.tail.toNat < f.length
          · rw [aR hl]; exact qG hl
          · exact absurd (by rw [List.getD_eq_getElem?_getD,List.getElem?_eq_none (by omega)]; rfl) this
        · exact .inr (by simp)
    · exact .inr (by rw [List.any_cons,q,Bool.or_true])
  · cases e
theorem aBy {l : List aG} {pre : List aJ} {s : aJ} {n : Int} : isK l (pre ++ [s]) n = (decide (s.serial = n) || isK l pre n) := by
 simp only [isK,List.any_append,List.any_cons,List.any_nil,Bool.or_false]
 cases (pre.any fun s => decide (s.serial = n)) <;> cases decide (s.serial = n) <;> rfl
theorem not_in {l : List aG} {pre : List aJ} {g : List (List Int)} {n : Int} (e : goF (l.map aG.ser) pre = some g) (h : isK l pre n = false) : ∀ r ∈ g,n ∉ r := fun r hr hm => by
 rw [isK,Bool.or_eq_false_iff] at h
 rcases aAt e ⟨r,hr,hm⟩ with ⟨x,hx,hn⟩ | q
 · obtain ⟨t,ht,rfl⟩ := List.mem_map.1 hx
   have := h.2
   rw [List.any_eq_false] at this
   exact this t ht (by simpa using hn)
 · rw [h.1] at q; cases q
theorem yQ {l : List aG} {g : List (List Int)} {d : Nat} {n : Int} (h : ∀ r ∈ g,n ∉ r) : jX l g d n = [] := by
 rw [jX,List.flatMap_eq_nil_iff]
 intro p hp
 rw [if_neg]
 refine h _ ?_
 obtain ⟨i,hi,e⟩ := List.getElem_of_mem hp
 rw [List.getElem_zipIdx] at e
 rw [← e]; exact qG _
theorem Jn.fly {l : List aG} {sw pre : List aJ} {f : Nat} {g : List (List Int)} {M : List aD} (a : Jn l sw f pre g M) (hg : gD l sw f = g) : Jn l sw (f + 1) pre g (jR l f 0 M g) where
 go := a.go
 val := fun n hn => by
  rw [aBH hn a.once,a.val n hn,sZ,hg]
  split
  · rw [List.foldl_append]; rfl
  · rfl
 neg := fun n hn => by rw [aBF hn]; exact a.neg n hn
 non := fun n hn => by rw [sZ,hg,a.non n hn,yQ (not_in a.go hn)]; rfl
 nd := a.nd.fly
 once := a.once
theorem Jn.put {l : List aG} {sw pre : List aJ} {f : Nat} {g : List (List Int)} {M : List aD} (a : Jn l sw f pre g M) {s : aJ} (hp : fY g s = true) : Jn l sw f (pre ++ [s]) (lM g s) (bS M s.serial) where
 go := by rw [vF,a.go,Option.bind_some,goF,if_pos hp]; rfl
 val := fun n hn => by
  rw [iN,aBy]
  by_cases q : s.serial = n
  · subst q
    rw [decide_eq_true rfl,Bool.true_or,if_pos rfl]
    have := a.val s.serial hn
    cases e : isK l pre s.serial with
    | true =>
     rw [e,if_pos rfl] at this
     rw [if_neg (fun w => by have w := w.2.2; rw [this] at w; cases w),this]
    | false =>
     rw [e,if_neg (by simp)] at this
     rw [if_pos ⟨rfl,hn,by rw [this]; rfl⟩,a.non _ e]; rfl
  · rw [if_neg fun w => q w.1.symm,decide_eq_false q,Bool.false_or]; exact a.val n hn
 neg := fun n hn => by rw [iN,if_neg (by omega)]; exact a.neg n hn
 non := fun n hn => by rw [aBy,Bool.or_eq_false_iff] at hn; exact a.non n hn.2
 nd := a.nd.know _
 once := xL a.once hp
theorem oH {s : aJ} {r : List aJ} (h : gH (s :: r)) : gH r ∧ ∀ x ∈ r,s.night ≤ x.night := by
 rw [gH,List.pairwise_cons] at h
 exact ⟨h.2,h.1⟩
theorem aBi {l : List aG} {sw : List aJ} {f d : Nat} : ∀ {sw' pre : List aJ} {g : List (List Int)} {M : List aD},Jn l sw f pre g M → gH sw' → (∀ s ∈ sw',(d : Int) ≤ s.night) →
 (iM d sw' g M = none ∧ goF g sw' = none) ∨ ∃ a b g' M',sw' = a ++ b ∧ iM d sw' g M = some (b,g',M') ∧ goF g sw' = goF g' b ∧ Jn l sw f (pre ++ a) g' M' ∧ (∀ s ∈ a,s.night = d) ∧ ∀ s ∈ b,(d : Int) + 1 ≤ s.night
 | [],pre,g,M,j,_,_ => .inr ⟨[],[],g,M,rfl,rfl,rfl,by rw [List.append_nil]; exact j,by simp,by simp⟩
 | s :: r,pre,g,M,j,so,hd => by
  obtain ⟨sr,hr⟩ := oH so
  have h0 := hd s (by simp)
  by_cases q : s.night = d
  · cases p : fY g s with
    | false => exact .inl ⟨by simp [iM,q,p],by simp [goF,p]⟩
    | true =>
     have e1 : iM d (s :: r) g M = iM d r (lM g s) (bS M s.serial) := by simp [iM,q,p]
     have e2 : goF g (s :: r) = goF (lM g s) r := by simp [goF,p]
     rw [e1,e2]
     rcases aBi (d := d) (j.put p) sr fun x hx => hd x (by simp [hx]) with h | ⟨a,b,g',M',h1,h2,h3,h4,h5,h6⟩
     · exact .inl h
     · refine .inr ⟨s :: a,b,g',M',by rw [h1]; rfl,h2,h3,by rw [List.append_assoc] at h4; exact h4,fun x hx => ?_,h6⟩
       rcases List.mem_cons.1 hx with rfl | hx
       · exact q
       · exact h5 x hx
  · refine .inr ⟨[],s :: r,g,M,rfl,by simp [iM,q],rfl,by rw [List.append_nil]; exact j,by simp,fun x hx => ?_⟩
    rcases List.mem_cons.1 hx with rfl | hx
    · omega
    · have := hr x hx; omega
theorem aDU {l : List aG} {sw : List aJ} {D : Nat} : ∀ {m d : Nat} {pre sw' : List aJ} {g : List (List Int)} {M : List aD},d + m = D → Jn l sw d pre g M → sw = pre ++ sw' → (∀ s ∈ pre,s.night < d) → (∀ s ∈ sw',(d : Int) ≤ s.night ∧ s.night < D) → gH sw' →
 (lH l m d sw' g M = none ∧ goF g sw' = none) ∨ ∃ g' M',lH l m d sw' g M = some M' ∧ goF g sw' = some g' ∧ Jn l sw D sw g' M'
 | 0,d,pre,sw',g,M,e,j,es,hp,hs,so => by
  obtain rfl : d = D := by omega
  obtain rfl : sw' = [] := List.eq_nil_iff_forall_not_mem.2 fun s h => by have := hs s h; omega
  rw [List.append_nil] at es
  subst es
  exact .inr ⟨g,M,rfl,rfl,j⟩
 | m + 1,d,pre,sw',g,M,e,j,es,hp,hs,so => by
  have hg : gD l sw d = g := by
   have : sw.filter (fun s => decide (s.night < (d : Int))) = pre := by
    rw [es,List.filter_append,List.filter_eq_self.2 fun s h => by simpa using hp s h,List.filter_eq_nil_iff.2 fun s h => by have := (hs s h).1; simp; omega,List.append_nil]
   rw [gD,cS,this,j.go]; rfl
  rw [lH]
  rcases aBi (d := d) (j.fly hg) so fun s h => (hs s h).1 with h | ⟨a,b,g',M',h1,h2,h3,h4,h5,h6⟩
  · exact .inl ⟨by rw [h.1]; rfl,h.2⟩
  · rw [h2,h3]
    have hb : ∀ s ∈ b,s ∈ sw' := fun s h => by rw [h1]; simp [h]
    refine aDU (m := m) (d := d + 1) (by omega) h4 (by rw [es,h1,List.append_assoc]) (fun s h => ?_) (fun s h => ⟨by have := h6 s h; omega,(hs s (hb s h)).2⟩) ?_
    · rcases List.mem_append.1 h with h | h
      · have := hp s h; omega
      · have := h5 s h; omega
    · rw [h1] at so; exact (List.pairwise_append.1 so).2.1
theorem ACall.ofE {P : Program} {w0 : World} {h : aA} {f : FuncId} {args : List AV} {Q : AV → aA → Prop} (a : fX P w0 f args h Q fun _ _ => False) : ACall P w0 f args h Q :=
 ⟨a.1,fun m w vs s v b => (a.2 m w vs s v b).mono fun _ _ p => by
  rcases p with p | ⟨_,_,_,_,_,q⟩
  · exact p
  · exact q.elim⟩
theorem tH {n : Int} : ∀ {r : List Int} {M : List aD},bC (r.foldl bS M) n = if (bC M n).isSome = true then bC M n else if 0 ≤ n ∧ n ∈ r then some (zT n) else none
 | [],M => by
  rw [List.foldl_nil]
  cases bC M n with
  | none => simp
  | some x => rfl
 | m :: r,M => by
  rw [List.foldl_cons,tH,iN]
  by_cases q : n = m ∧ 0 ≤ m ∧ (bC M m).isNone
  · rw [if_pos q]
    obtain ⟨rfl,q1,q2⟩ := q
    rw [Option.isNone_iff_eq_none] at q2
    simp [q1,q2]
  · rw [if_neg q]
    cases e : bC M n with
    | some x => rfl
    | none =>
     simp only [Option.isSome_none,Bool.false_eq_true,if_false,List.mem_cons]
     by_cases w : 0 ≤ n ∧ n ∈ r
     · rw [if_pos w,if_pos ⟨w.1,.inr w.2⟩]
     · rw [if_neg w,if_neg]
       rintro ⟨w1,rfl | w2⟩
       · exact q ⟨rfl,w1,by rw [e]; rfl⟩
       · exact w ⟨w1,w2⟩
theorem rC {n : Int} : ∀ {l : List aG} {M : List aD},bC (l.foldl (fun M t => t.ser.foldl bS M) M) n = if (bC M n).isSome = true then bC M n else if 0 ≤ n ∧ l.any (fun t => decide (n ∈ t.ser)) = true then some (zT n) else none
 | [],M => by
  rw [List.foldl_nil]
  cases bC M n with
  | none => simp
  | some x => rfl
 | t :: l,M => by
  rw [List.foldl_cons,rC,tH,List.any_cons]
  cases e : bC M n with
  | some x => rfl
  | none =>
   by_cases q : 0 ≤ n ∧ n ∈ t.ser
   · simp [q]
   · by_cases q0 : 0 ≤ n
     · have q1 : n ∉ t.ser := fun h => q ⟨q0,h⟩
       simp [q0,q1]
     · simp [q0]
theorem sU : ∀ {r acc : List Int},uO acc r = true → (∀ n ∈ r,-1 ≤ n ∧ n ≤ 1000) ∧ (∀ n ∈ r,0 ≤ n → n ∉ acc) ∧ iF r
 | [],_,_ => ⟨by simp,by simp,by simp [iF]⟩
 | n :: r,acc,h => by
  simp only [uO,Bool.and_eq_true,Bool.not_eq_true',Bool.and_eq_false_iff,decide_eq_false_iff_not] at h
  obtain ⟨⟨h1,h2⟩,h3⟩ := h
  obtain ⟨i1,i2,i3⟩ := sU h3
  rw [jF] at h1
  refine ⟨fun m hm => ?_,fun m hm h0 => ?_,?_⟩
  · rcases List.mem_cons.1 hm with rfl | hm
    · exact h1
    · exact i1 m hm
  · rcases List.mem_cons.1 hm with rfl | hm
    · rcases h2 with h2 | h2
      · exact absurd h0 h2
      · exact h2
    · exact fun q => i2 m hm h0 (by simp [q])
  · unfold iF at i3 ⊢
    by_cases h0 : 0 ≤ n
    · rw [List.filter_cons_of_pos (by simpa using h0),List.nodup_cons]
      refine ⟨fun q => ?_,i3⟩
      exact i2 n (List.mem_filter.1 q).1 h0 (by simp)
    · rw [List.filter_cons_of_neg (by simpa using h0)]; exact i3
theorem iW : ∀ {l : List aG} {n0 : Nat} {acc : List Int},fS n0 acc l = true → ∀ t ∈ l,(∀ n ∈ t.ser,-1 ≤ n ∧ n ≤ 1000) ∧ iF t.ser
 | [],_,_,_,t,ht => by cases ht
 | x :: l,n0,acc,h,t,ht => by
  simp only [fS,Bool.and_eq_true] at h
  rcases List.mem_cons.1 ht with rfl | ht
  · have := sU h.2.1; exact ⟨this.1,this.2.2⟩
  · exact iW h.2.2 t ht
theorem Jn.init {l : List aG} {sw : List aJ} (k : TOK l) : Jn l sw 0 [] (l.map aG.ser) (eH l) where
 go := rfl
 val := fun n hn => by
  unfold eH
  rw [rC]
  simp [bC,isK,hn,cX]
 neg := fun n hn => by
  unfold eH
  rw [rC,if_neg (by simp [bC]),if_neg (by omega)]
 non := fun n _ => rfl
 nd := KN.init List.nodup_nil
 once := fun x hx => by
  obtain ⟨t,ht,rfl⟩ := List.mem_map.1 hx
  exact (iW k.e t ht).2
theorem sR : ∀ {sw : List aJ},(∀ i,i + 1 < sw.length → (sw.getD i oJ).night ≤ (sw.getD (i + 1) oJ).night) → gH sw
 | [],_ => List.Pairwise.nil
 | [s],_ => List.pairwise_singleton _ _
 | s :: x :: r,h => by
  have ih := sR (sw := x :: r) fun i hi => h (i + 1) (by simp only [List.length_cons] at hi ⊢; omega)
  have h0 := h 0 (by simp)
  simp only [List.getD_cons_zero,List.getD_cons_succ] at h0
  obtain ⟨_,h1⟩ := oH ih
  refine List.pairwise_cons.2 ⟨fun y hy => ?_,ih⟩
  rcases List.mem_cons.1 hy with rfl | hy
  · exact h0
  · have := h1 y hy; omega
theorem mM {l : List aG} {sw : List aJ} (h : cG l sw = true) : gH sw := sR fun i hi => by
 have := List.all_eq_true.1 h (i + 1) (List.mem_range.2 hi)
 rw [Bool.and_eq_true,oR,Bool.or_eq_true,decide_eq_true_eq,decide_eq_true_eq] at this
 rcases this.2 with q | q
 · omega
 · exact q
theorem iI {l : List aG} {sw : List aJ} (h : cG l sw = true) {s : aJ} (hs : s ∈ sw) : iJ l s = true := by
 obtain ⟨i,hi,rfl⟩ := List.getElem_of_mem hs
 have := List.all_eq_true.1 h i (List.mem_range.2 hi)
 rw [Bool.and_eq_true,aR hi] at this
 exact this.1
theorem iX {l : List aG} (k : TOK l) {s : aJ} (h : iJ l s = true) : 0 ≤ s.night ∧ s.night < aO l ∧ s.serial ≤ 1000 := by
 simp only [iJ,Bool.and_eq_true,jF] at h
 have ht : s.tail.toNat < l.length := by omega
 have h2 := h.2.2.2
 rw [aR ht,(k.day (qG ht)).1] at h2
 omega
theorem aEz {l : List aG} (k : TOK l) {sw : List aJ} (h : cG l sw = true) {n : Int} (hn : isK l sw n = true) : n ≤ 1000 := by
 rw [isK,Bool.or_eq_true,List.any_eq_true,List.any_eq_true] at hn
 rcases hn with ⟨s,hs,e⟩ | ⟨t,ht,e⟩
 · have := (iX k (iI h hs)).2.2
   rw [decide_eq_true_eq] at e
   omega
 · rw [decide_eq_true_eq] at e
   exact ((iW k.e t ht).1 n e).2
theorem aFU {l : List aG} {sw : List aJ} (k : TOK l) (h : cG l sw = true) : (lH l (aO l) 0 sw (l.map aG.ser) (eH l) = none ∧ cS l sw (aO l) = none) ∨ ∃ g' M',lH l (aO l) 0 sw (l.map aG.ser) (eH l) = some M' ∧ cS l sw (aO l) = some g' ∧ Jn l sw (aO l) sw g' M' := by
 have e : cS l sw (aO l) = goF (l.map aG.ser) sw := by
  rw [cS,List.filter_eq_self.2 fun s hs => by have := (iX k (iI h hs)).2.1; simpa using this]
 rw [e]
 exact aDU (m := aO l) (d := 0) (pre := []) (by omega) (Jn.init k) rfl (by simp) (fun s hs => by have := iX k (iI h hs); omega) (mM h)
theorem Jn.keys {l : List aG} {sw : List aJ} (k : TOK l) (h : cG l sw = true) {g : List (List Int)} {M : List aD} (j : Jn l sw (aO l) sw g M) : fL (M.map aD.n) = cP l sw 1001 := by
 refine aHg (N := 1000) j.nd fun n => ?_
 rw [← aEE]
 by_cases h0 : 0 ≤ n
 · rw [j.val n h0]
   cases e : isK l sw n with
   | true => have := aEz k h e; simp [h0]; omega
   | false => simp
 · rw [j.neg n (by omega)]; simp [h0]
theorem Jn.traces {l : List aG} {sw : List aJ} (k : TOK l) (h : cG l sw = true) {g : List (List Int)} {M : List aD} (j : Jn l sw (aO l) sw g M) : kF M = (cP l sw 1001).map (eX l sw) := by
 rw [kF,j.keys k h]
 refine List.map_congr_left fun n hn => ?_
 simp only [cP,List.mem_filter,List.mem_map] at hn
 obtain ⟨⟨i,_,rfl⟩,e⟩ := hn
 rw [j.val _ (by omega),e,if_pos rfl,Option.getD_some,eX]
 have h1 := @mT l sw (i : Int) (aO l)
 have h2 : aO l * l.length ≤ 30 * 4 := Nat.mul_le_mul k.d k.n
 exact (aBE (n := (i : Int)) (k := 0) (by simp [BdT,zT]) (by omega) (by omega) (qX k (Nat.le_refl _))).1
theorem aDv {l : List aG} {sw : List aJ} (k : TOK l) (h : cG l sw = true) : iV l sw = uL l sw := by
 by_cases hl : l = []
 · subst hl
   have : sw = [] := List.eq_nil_iff_forall_not_mem.2 fun s hs => by
    have := (vS.of (iI h hs)); have h1 := this.t0; have h2 := this.t1; simp at h2; omega
   subst this
   rw [iV,if_pos rfl,uL]
   have : cP [] [] 1001 = [] := by rw [cP,List.filter_eq_nil_iff]; intro n _; simp [isK]
   rw [this]; rfl
 · rw [iV,if_neg hl,uL]
   rcases aFU k h with ⟨h1,h2⟩ | ⟨g,M,h1,h2,j⟩
   · rw [h1,h2]; rfl
   · rw [h1,h2,Option.map_some,Option.map_some,j.traces k h]
end Go.Proofs.Ab

/- The own layer under the proofs of this seat, part F: what calls of the program come to on an abstract heap. No condition. -/
import Derived.Test.YtiaaonmbgkealaaE
import Derived.Attr
set_option linter.unusedSimpArgs false
set_option linter.unusedVariables false
namespace Go.Proofs.Ab
open Go
inductive SC where
 | skip
 | ret
 | exit (id : Nat)
 | reg (l : List MIx)
 | draw (fl : List Bool) (l : List MIx) (bef : List (List Nat))
 | seq (a b : SC)
 | cond (c : Opd) (a b : SC)
 | blk (id : Nat) (a : SC)
 | loop (keep : List Nat) (a : SC)
 | rng (f : Opd) (ps : Array Tmp) (ca cb : Code) (ma mb : SC)
 | lab (n : Nat)
 | scope (a : SC)
 | regC (l1 : List MIx) (d : Option Nat) (f : Opd) (as : List Opd) (l2 : List MIx)
 | regP (l1 : List MIx) (d : Option Nat) (x : Opd) (l2 : List MIx)
 | drawE (l1 : List MIx) (d : Option Nat) (f : Opd) (as : List Opd) (bef : List (List Nat))
def SC.er : SC → MC
 | .skip => .skip
 | .ret => .ret
 | .exit id => .exit id
 | .reg l => .reg l
 | .draw _ l bef => .draw l bef
 | .seq a b => .seq a.er b.er
 | .cond c a b => .cond c a.er b.er
 | .blk id a => .blk id a.er
 | .loop _ a => .loop a.er
 | .rng f ps ca cb ma mb => .rng f ps ca cb ma.er mb.er
 | .lab n => .lab n
 | .scope a => .scope a.er
 | .regC l1 d f as l2 => .reg (l1 ++ .call d none f as :: l2)
 | .regP l1 d x l2 => .reg (l1 ++ .op d none (.panic x) :: l2)
 | .drawE l1 d f as bef => .draw (l1 ++ [.call d none f as]) bef
def qop : MOp → Bool
 | .box _ _ | .alloc _ | .bslice _ _ _ _ | .store _ _ _ | .mkmap | .mksl _ _ _ _ _ | .mput _ _ _ _ | .app _ _ _ _ _ | .copy _ _ _ => false
 | _ => true
def qix : MIx → Bool
 | .op _ _ o => qop o
 | .call _ _ _ _ => true
def aAr (bef : List (List Nat)) (n i : Nat) : Bool := (List.range n).all fun j => !hY bef i j
def nA (fl : List Bool) (l : List MIx) (bef : List (List Nat)) : Bool :=
 (List.range l.length).all fun i => match fl.getD i false with
  | true => aAr bef l.length i
  | false => match l[i]? with
   | some x => qix x
   | none => false
def SC.good : SC → Bool
 | .draw [] _ _ => true
 | .draw fl l bef => nA fl l bef
 | .seq a b => a.good && b.good
 | .cond _ a b => a.good && b.good
 | .blk _ a => a.good
 | .loop _ a => a.good
 | .rng _ _ _ _ ma mb => ma.good && mb.good
 | .scope a => a.good
 | .drawE l1 d f as bef => nA (l1.map (fun _ => false) ++ [true]) (l1 ++ [.call d none f as]) bef && (List.range l1.length).all fun j => bfr bef l1.length j
 | _ => true
structure SF where
 nt : Nat
 res : List RV
 body : SC
def SF.er (f : SF) : MF := ⟨f.nt,f.res,f.body.er⟩
def aP (P : Program) (w0 : World) (fv : AV) (args : List AV) (h : Heap) (v : AV) (h1 : Heap) : Prop :=
 aS P w0 fv args h fun v' h' => v' = v ∧ h' = h1
def fQ (o : Option (AV × Heap)) (K : AV → Heap → Prop) : Prop :=
 match o with
 | some p => K p.1 p.2
 | none => False
def gv (v : AV) (t : Nat) (b : Bool) (fr : Fr) (A B : Fr → Prop) : Prop :=
 match v with
 | .bool c => (c = b → A ((t,.bool b) :: fr)) ∧ (c = !b → B ((t,.bool !b) :: fr))
 | .tup [] => B fr
 | _ => False
def jU (g : Option (Nat × Bool)) (fr : Fr) (A B : Fr → Prop) : Prop :=
 match g with
 | none => A fr
 | some p => gv (fr.get p.1) p.1 p.2 fr A B
def cv (v : AV) (t : Nat) (fr : Fr) (A B : Fr → Prop) : Prop :=
 match v with
 | .bool c => (c = true → A ((t,.bool true) :: fr)) ∧ (c = false → B ((t,.bool false) :: fr))
 | _ => False
def sN (c : Opd) (fr : Fr) (A B : Fr → Prop) : Prop :=
 match c with
 | .t t => cv (fr.get t) t fr A B
 | .k (.bool true) => A fr
 | .k (.bool false) => B fr
 | _ => False
def aCH (P : Program) (w0 : World) (fv : AV) (args : List AV) (h : Heap) (K : AV → Heap → Prop) : Prop := aS P w0 fv args h K
def aGn (P : Program) (w0 : World) (fv : AV) (args : List AV) (h : Heap) (K : AV → Heap → Prop) : Prop :=
 ∃ v h1,aP P w0 fv args h v h1 ∧ h.length ≤ h1.length ∧ K v h1
def callQ (P : Program) (w0 : World) (fv : AV) (args : List AV) (h : Heap) (K : AV → Prop) : Prop :=
 ∃ v,aP P w0 fv args h v h ∧ K v
def vc (P : Program) (w0 : World) : List MIx → Fr → Heap → (Fr → Heap → Prop) → Prop
 | [],fr,h,K => K fr h
 | .op d g o :: r,fr,h,K => jU g fr (fun fr => fQ (aop w0 o fr h) fun v h' => vc P w0 r (fr.put d v) h' K) (fun fr => vc P w0 r (fr.put d (.tup [])) h K)
 | .call d g f args :: r,fr,h,K => jU g fr (fun fr => aCH P w0 (f.ev fr) (args.map (·.ev fr)) h fun v h' => vc P w0 r (fr.put d v) h' K) (fun fr => vc P w0 r (fr.put d (.tup [])) h K)
def vd (P : Program) (w0 : World) : List Bool → List MIx → Fr → Heap → (Fr → Heap → Prop) → Prop
 | _,[],fr,h,K => K fr h
 | true :: fl,.op d g o :: r,fr,h,K => jU g fr (fun fr => fQ (aop w0 o fr h) fun v h' => vd P w0 fl r (fr.put d v) h' K) (fun fr => vd P w0 fl r (fr.put d (.tup [])) h K)
 | true :: fl,.call d g f args :: r,fr,h,K => jU g fr (fun fr => aGn P w0 (f.ev fr) (args.map (·.ev fr)) h fun v h' => vd P w0 fl r (fr.put d v) h' K) (fun fr => vd P w0 fl r (fr.put d (.tup [])) h K)
 | false :: fl,.op d g o :: r,fr,h,K => jU g fr (fun fr => fQ (aop w0 o fr h) fun v _ => vd P w0 fl r (fr.put d v) h K) (fun fr => vd P w0 fl r (fr.put d (.tup [])) h K)
 | false :: fl,.call d g f args :: r,fr,h,K => jU g fr (fun fr => callQ P w0 (f.ev fr) (args.map (·.ev fr)) h fun v => vd P w0 fl r (fr.put d v) h K) (fun fr => vd P w0 fl r (fr.put d (.tup [])) h K)
 | [],_ :: _,_,_,_ => False
def seqK (N : Fr → Heap → Prop) (Q : Exit → Fr → Heap → Prop) : Exit → Fr → Heap → Prop
 | .normal,fr,h => N fr h
 | e,fr,h => Q e fr h
def gN (fr : Fr) : List Nat → Fr
 | [] => []
 | t :: ts => (t,fr.get t) :: gN fr ts
def callE (P : Program) (w0 : World) (fv : AV) (as : List AV) (h : Heap) (K : AV → Prop) (X : AV → Prop) : Prop :=
 (∃ v,aP P w0 fv as h v h ∧ K v) ∨ ∃ x,PanV P w0 fv as h x ∧ X x
def sx (P : Program) (w0 : World) (r : Option Nat) (nt Z : Nat) : SC → Fr → Heap → (Exit → Fr → Heap → Prop) → Prop
 | .skip,fr,h,Q => Q .normal fr h
 | .ret,fr,h,Q => Q .ret fr h
 | .exit id,fr,h,Q => Q (.exit id) fr h
 | .reg l,fr,h,Q => vc P w0 l fr h (Q .normal)
 | .draw [] l bef,fr,h,Q => EvM P w0 r nt Z (.draw l bef) fr h Q
 | .draw fl l _,fr,h,Q => vd P w0 fl l fr h (Q .normal)
 | .seq a b,fr,h,Q => sx P w0 r nt Z a fr h (seqK (fun fr h => sx P w0 r nt Z b fr h Q) Q)
 | .cond c a b,fr,h,Q => sN c fr (fun fr => sx P w0 r nt Z a fr h Q) (fun fr => sx P w0 r nt Z b fr h Q)
 | .blk id a,fr,h,Q => sx P w0 r nt Z a fr h (aBU id Q)
 | .loop keep a,fr,h,Q => EvL P w0 r nt Z a.er (gN fr keep) h Q
 | .rng f ps ca cb ma mb,fr,h,Q => EvM P w0 r nt Z (.rng f ps ca cb ma.er mb.er) fr h Q
 | .lab _,fr,h,Q => Q .normal fr h
 | .scope a,fr,h,Q => sx P w0 r nt Z a fr h (pR Q)
 | .regC l1 d f as l2,fr,h,Q => vc P w0 l1 fr h fun fr h => fL P w0 (f.ev fr) (as.map (·.ev fr)) h (fun v h' => vc P w0 l2 (fr.put d v) h' (Q .normal)) (fun ch h' => Q (.panic ch) fr h')
 | .drawE l1 d f as _,fr,h,Q => vd P w0 (l1.map fun _ => false) l1 fr h fun fr h => callE P w0 (f.ev fr) (as.map (·.ev fr)) h (fun v => Q .normal (fr.put d v) h) (fun x => Q (.panic (pan x)) fr h)
 | .regP l1 _ x _,fr,h,Q => vc P w0 l1 fr h fun fr h => qA (x.ev fr) = true ∧ Q (.panic (pan (x.ev fr))) fr h
section
variable {P : Program} {w0 : World} {r : Option Nat} {nt Z : Nat} {fr : Fr} {h : Heap} {Q : Exit → Fr → Heap → Prop}
def FE (fr fr' : Fr) : Prop := ∀ t,fr'.get t = fr.get t
theorem FE.put1 {t : Nat} {v : AV} (e : fr.get t = v) : FE fr ((t,v) :: fr) := fun q => by
 simp only [Fr.get]
 cases hb : Nat.beq q t with
 | false => rfl
 | true => rw [bD.1 hb,e]; rfl
theorem eZ {g : Option (Nat × Bool)} {A B : Fr → Prop} (k : jU g fr A B) :
 (want fr g = some true ∧ ∃ fr',FE fr fr' ∧ A fr') ∨ (want fr g = some false ∧ ∃ fr',FE fr fr' ∧ B fr') := by
 cases g with
 | none => exact .inl ⟨rfl,fr,fun _ => rfl,k⟩
 | some p =>
  obtain ⟨t,b⟩ := p
  simp only [jU] at k
  simp only [want]
  generalize hv : fr.get t = v at k
  unfold gv at k
  split at k
  · rename_i c
    by_cases hc : c = b
    · subst hc
      exact .inl ⟨by simp,_,FE.put1 hv,k.1 rfl⟩
    · have hc' : c = !b := by cases c <;> cases b <;> simp_all
      subst hc'
      exact .inr ⟨by simp,_,FE.put1 hv,k.2 rfl⟩
  · exact .inr ⟨rfl,fr,fun _ => rfl,k⟩
  · exact k.elim
theorem FE.want {fr' : Fr} (e : FE fr fr') (g : Option (Nat × Bool)) : Ab.want fr' g = Ab.want fr g := jO fun t _ => e t
theorem FE.aop {fr' : Fr} (e : FE fr fr') (o : MOp) : Ab.aop w0 o fr' h = Ab.aop w0 o fr h := nV fun t _ => e t
theorem FE.frame {fr' : Fr} (e : FE fr fr') : ∀ t,fr'.get t = .undef ∨ fr'.get t = fr.get t := fun t => .inr (e t)
theorem pF {l : Option Nat} {B : Bs} {ops : Array Oper} {rest : List Oper} {R : Exit → Act → World → Prop} : ∀ (os : List Oper) (ml : List MIx) {K : Fr → Heap → Prop} {m : Emb} {fr : Fr} {h : Heap} {a : Act} {w : World},
 os.mapM (dZ P nt ops) = some ml → SA w0 r l nt Z B m fr h a w → vc P w0 ml fr h K →
 (∀ m' fr' h' a' w',iN Z w0 m m' h h' w w' → SA w0 r l nt Z B m' fr' h' a' w' → K fr' h' → a'.defers = a.defers → wpListIn (Wd l) 0 P ops R rest a' w') → wpListIn (Wd l) 0 P ops R (os ++ rest) a w := by
 intro os
 induction os with
 | nil => intro ml K m fr h a w hl sa e k; simp at hl; subst hl; exact k m fr h a w ((bO.refl sa.sim).toZ sa.hz) sa e rfl
 | cons o os ih =>
  intro ml K m fr h a w hl sa e k
  simp only [List.mapM_cons,Option.bind_eq_bind,Option.bind_eq_some_iff,Option.pure_def,Option.some.injEq] at hl
  obtain ⟨x,hx,xs,hxs,rfl⟩ := hl
  have hsplit : ∃ fr',FE fr fr' ∧ iH P w0 [x] fr' h (fun fr' h' => vc P w0 xs fr' h' K) := by
   cases x with
   | op d g o =>
    simp only [vc] at e
    rcases eZ e with ⟨hw,fr',hfe,k⟩ | ⟨hw,fr',hfe,k⟩
    · refine ⟨fr',hfe,?_⟩
      simp only [iH,hfe.want,hw]
      unfold fQ at k
      split at k
      · rename_i p hp; exact ⟨_,_,hp,k⟩
      · exact k.elim
    · exact ⟨fr',hfe,by simp only [iH,hfe.want,hw]; exact k⟩
   | call d g f as =>
    simp only [vc] at e
    rcases eZ e with ⟨hw,fr',hfe,k⟩ | ⟨hw,fr',hfe,k⟩
    · exact ⟨fr',hfe,by simp only [iH,hfe.want,hw]; exact k⟩
    · exact ⟨fr',hfe,by simp only [iH,hfe.want,hw]; exact k⟩
  obtain ⟨fr',hfe,hsplit⟩ := hsplit
  have sa := sa.frame' hfe.frame
  simp only [List.cons_append,wpListIn]
  exact tB (P := P) (ops := ops) hx sa hsplit (Q := R) (next := wpListIn (Wd l) 0 P ops R (os ++ rest))
   fun m' fr' h' a' w' s sa' k' hd => ih xs hxs sa' k' fun m2 fr2 h2 a2 w2 s2 sa2 k2 hd2 => k m2 fr2 h2 a2 w2 ((s.toZ sa.hz).trans s2) sa2 k2 (hd2.trans hd)
theorem EvM_vc {ml : List MIx} (e : vc P w0 ml fr h (Q .normal)) : EvM P w0 r nt Z (.reg ml) fr h Q := fun c hc m a w B l sa => by
 obtain ⟨id,ops,rfl,hl⟩ := lJ hc
 refine wpIn_region_list ?_
 have := pF (P := P) (rest := []) (R := mK w0 r l nt Z B m h w Q) ops.toList ml hl sa e fun m' fr' h' a' w' s sa' k _ => ⟨m',fr',h',s,sa',k⟩
 rwa [List.append_nil] at this
theorem pX {α β : Type} {f : α → Option β} : ∀ {l1 : List α} {k : List β} {k1 : List β} {y : β} {k2 : List β},l1.mapM f = some k → k = k1 ++ y :: k2 → ∃ a x b,l1 = a ++ x :: b ∧ a.mapM f = some k1 ∧ f x = some y ∧ b.mapM f = some k2
 | [],k,k1,y,k2,h,e => by simp at h; subst h; cases k1 <;> simp at e
 | z :: l,k,k1,y,k2,h,e => by
  simp only [List.mapM_cons,Option.bind_eq_bind,Option.bind_eq_some_iff,Option.pure_def,Option.some.injEq] at h
  obtain ⟨x,hx,xs,hxs,rfl⟩ := h
  cases k1 with
  | nil =>
   simp only [List.nil_append,List.cons.injEq] at e
   obtain ⟨rfl,rfl⟩ := e
   exact ⟨[],z,l,rfl,by simp,hx,hxs⟩
  | cons p k1 =>
   simp only [List.cons_append,List.cons.injEq] at e
   obtain ⟨rfl,e⟩ := e
   obtain ⟨a,q,b,rfl,h1,h2,h3⟩ := pX hxs e
   exact ⟨z :: a,q,b,rfl,by simp [hx,h1],h2,h3⟩
theorem aGT {l1 l2 : List MIx} {d : Option Nat} {f : Opd} {as : List Opd}
 (e : vc P w0 l1 fr h fun fr h => fL P w0 (f.ev fr) (as.map (·.ev fr)) h (fun v h' => vc P w0 l2 (fr.put d v) h' (Q .normal)) (fun ch h' => Q (.panic ch) fr h')) :
 EvM P w0 r nt Z (.reg (l1 ++ .call d none f as :: l2)) fr h Q := fun c hc m a w B l sa => by
 obtain ⟨id,ops,rfl,hl⟩ := lJ hc
 refine wpIn_region_list ?_
 obtain ⟨o1,o,o2,e0,h1,h2,h3⟩ := pX hl rfl
 rw [e0]
 refine pF (P := P) o1 l1 h1 sa e fun m' fr' h' a' w' s sa' k _ => ?_
 simp only [wpListIn]
 refine zY h2 sa' k (fun m2 v h2 a2 w2 s2 sa2 k2 => ?_) (fun m2 ch h2 w2 s2 k2 => ?_)
 · have := pF (P := P) (rest := []) (R := mK w0 r l nt Z B m h w Q) o2 l2 h3 sa2 k2 fun m3 fr3 h3 a3 w3 s3 sa3 k3 _ => ⟨m3,fr3,h3,(s.trans (s2.toZ sa'.hz)).trans s3,sa3,k3⟩
   rwa [List.append_nil] at this
 · exact ⟨m2,fr',h2,s.trans (s2.toZ sa'.hz),sa'.step s2,k2⟩
theorem aGS {l1 l2 : List MIx} {d : Option Nat} {x : Opd} (e : vc P w0 l1 fr h fun fr h => qA (x.ev fr) = true ∧ Q (.panic (pan (x.ev fr))) fr h) :
 EvM P w0 r nt Z (.reg (l1 ++ .op d none (.panic x) :: l2)) fr h Q := fun c hc m a w B l sa => by
 obtain ⟨id,ops,rfl,hl⟩ := lJ hc
 refine wpIn_region_list ?_
 obtain ⟨o1,o,o2,e0,h1,h2,h3⟩ := pX hl rfl
 rw [e0]
 refine pF (P := P) o1 l1 h1 sa e fun m' fr' h' a' w' s sa' k _ => ?_
 simp only [wpListIn]
 exact aEX h2 sa' k.1 ⟨m',fr',h',s,sa',k.2⟩
theorem aD1 {es : Nat} {x y v : AV} {h' : Heap} (e : qM w0 h es x y = some (v,h')) : h'.length = h.length := by
 simp only [qM,Option.bind_eq_some_iff] at e
 obtain ⟨_,_,_,_,e⟩ := e
 split at e
 · simp at e; rw [e.2]
 · split at e
   · simp only [Option.bind_eq_some_iff] at e
     obtain ⟨_,_,e⟩ := e
     split at e
     · split at e
       · split at e
         · simp at e; rw [← e.2]; simp
         · cases e
       · cases e
     · cases e
   · cases e
theorem aJE {o : MOp} {v : AV} {h' : Heap} (e : aop w0 o fr h = some (v,h')) : h.length ≤ h'.length := by
 cases o <;> simp only [aop] at e
 case copy es x y => exact Nat.le_of_eq (aD1 e).symm
 case app es z b x y =>
  simp only [fM,Option.bind_eq_some_iff] at e
  obtain ⟨nl,_,e⟩ := e
  split at e
  · split at e <;> simp at e <;> simp [e]
  · split at e
    · split at e
      · simp [jR] at e; simp [← e.2]
      · cases e
    · split at e
      · split at e
        · simp only [Option.bind_eq_some_iff] at e
          obtain ⟨_,_,e⟩ := e
          simp [jR] at e; simp [← e.2]
        · split at e
          · simp only [Option.bind_eq_some_iff] at e
            obtain ⟨_,_,e⟩ := e
            simp at e; simp [← e.2]
          · cases e
      · cases e
    · cases e
 all_goals
  first
   | (simp only [Option.some.injEq,Prod.mk.injEq] at e; obtain ⟨_,rfl⟩ := e; simp; done)
   | (simp only [Option.bind_eq_some_iff,Option.some.injEq,Prod.mk.injEq] at e; obtain ⟨_,_,_,rfl⟩ := e; simp; done)
   | (repeat' split at e
      all_goals first
       | (cases e; done)
       | (simp only [Option.some.injEq,Prod.mk.injEq] at e; obtain ⟨_,rfl⟩ := e; simp; done)
       | (simp only [jR,Option.some.injEq,Prod.mk.injEq] at e; obtain ⟨_,rfl⟩ := e; simp; done)
       | (simp only [Option.bind_eq_some_iff,Option.some.injEq,Prod.mk.injEq] at e; obtain ⟨_,_,_,rfl⟩ := e; simp; done)
       | (simp only [Option.bind_eq_some_iff,Option.some.injEq,Prod.mk.injEq,Option.pure_def] at e; obtain ⟨⟨_,_,_⟩,_,_,rfl⟩ := e; simp; done)
       )
theorem lL {o : MOp} (q : qop o = true) {v : AV} {h' : Heap} (e : aop w0 o fr h = some (v,h')) : h' = h := by
 cases o <;> simp only [aop] at e <;> simp only [qop,Bool.false_eq_true] at q
 all_goals
  first
   | (simp only [Option.some.injEq,Prod.mk.injEq] at e; obtain ⟨_,rfl⟩ := e; rfl)
   | (simp only [Option.bind_eq_some_iff,Option.some.injEq,Prod.mk.injEq] at e; obtain ⟨_,_,_,rfl⟩ := e; rfl)
   | (repeat' split at e
      all_goals first
       | (cases e; done)
       | (simp only [Option.some.injEq,Prod.mk.injEq] at e; obtain ⟨_,rfl⟩ := e; rfl)
       | (simp only [Option.bind_eq_some_iff,Option.some.injEq,Prod.mk.injEq] at e; obtain ⟨_,_,_,rfl⟩ := e; rfl)
       | (simp only [Option.bind_eq_some_iff,Option.some.injEq,Prod.mk.injEq,Option.pure_def] at e; obtain ⟨⟨_,_,_⟩,_,_,rfl⟩ := e; rfl)
       )
end
end Go.Proofs.Ab
namespace Go.Proofs.Ab
open Go
section
variable {P : Program} {w0 : World} {r : Option Nat} {nt Z : Nat} {fr : Fr} {h : Heap} {Q : Exit → Fr → Heap → Prop}
def fZ (P : Program) (w0 : World) : List Bool → List MIx → Fr → Heap → List (AV × Heap) → Prop
 | _,[],_,_,[] => True
 | b :: fl,x :: l,fr,h,p :: st => opV P w0 x fr h (fun v' h' => v' = p.1 ∧ h' = p.2) ∧ h.length ≤ p.2.length ∧ (b = false → p.2 = h) ∧ fZ P w0 fl l (fr.put x.dst p.1) p.2 st
 | _,_,_,_,_ => False
def iK (h : Heap) : List (AV × Heap) → Heap
 | [] => h
 | p :: st => iK p.2 st
def hT (fr : Fr) : List MIx → List (AV × Heap) → Fr
 | x :: l,p :: st => hT (fr.put x.dst p.1) l st
 | _,_ => fr
theorem FE.put {fr fr' : Fr} (e : FE fr fr') (d : Option Nat) (v : AV) : FE (fr.put d v) (fr'.put d v) := fun t => by
 cases d with
 | none => exact e t
 | some d =>
  simp only [Fr.put,Fr.get]
  split
  · rfl
  · exact e t
theorem FE.symm {fr fr' : Fr} (e : FE fr fr') : FE fr' fr := fun t => (e t).symm
theorem FE.trans {fr fr' fr'' : Fr} (e : FE fr fr') (e' : FE fr' fr'') : FE fr fr'' := fun t => (e' t).trans (e t)
theorem FE.refl (fr : Fr) : FE fr fr := fun _ => rfl
theorem fZ.fe : ∀ {fl : List Bool} {l : List MIx} {fr fr' : Fr} {h : Heap} {st : List (AV × Heap)},FE fr fr' → fZ P w0 fl l fr' h st → fZ P w0 fl l fr h st
 | _,[],_,_,_,[],_,_ => by simp only [fZ]
 | _,[],_,_,_,_ :: _,_,k => by simp only [fZ] at k
 | [],_ :: _,_,_,_,_,_,k => by simp only [fZ] at k
 | _ :: _,_ :: _,_,_,_,[],_,k => by simp only [fZ] at k
 | b :: fl,x :: l,fr,fr',h,p :: st,e,k => by
  simp only [fZ] at k ⊢
  exact ⟨eJ (fun t _ => e t) k.1,k.2.1,k.2.2.1,fZ.fe (e.put _ _) k.2.2.2⟩
theorem aAg : ∀ {l : List MIx} {fr fr' : Fr} {st : List (AV × Heap)},FE fr fr' → FE (hT fr l st) (hT fr' l st)
 | [],_,_,_,e => by simpa only [hT] using e
 | _ :: _,_,_,[],e => by simpa only [hT] using e
 | x :: l,_,_,p :: st,e => by simp only [hT]; exact aAg (e.put _ _)
theorem aBd : ∀ {fl : List Bool} {l : List MIx} {fr : Fr} {h : Heap} {K : Fr → Heap → Prop},(∀ (i : Nat) x,fl.getD i false = false → l[i]? = some x → qix x = true) → vd P w0 fl l fr h K →
 ∃ st fr1,fZ P w0 fl l fr h st ∧ FE (hT fr l st) fr1 ∧ K fr1 (iK h st)
 | fl,[],fr,h,K,_,k => by
  refine ⟨[],fr,?_,FE.refl _,?_⟩
  · cases fl <;> simp only [fZ]
  · cases fl with
    | nil => simpa only [vd,iK] using k
    | cons b fl => cases b <;> simpa only [vd,iK] using k
 | [],_ :: _,fr,h,K,_,k => by simp only [vd] at k
 | b :: fl,x :: l,fr,h,K,hq,k => by
  have hq' : ∀ (i : Nat) x,fl.getD i false = false → l[i]? = some x → qix x = true := fun i y h1 h2 => hq (i + 1) y (by simpa using h1) (by simpa using h2)
  have step : ∀ fr' v h1,FE fr fr' → opV P w0 x fr' h (fun v' h' => v' = v ∧ h' = h1) → h.length ≤ h1.length → (b = false → h1 = h) → vd P w0 fl l (fr'.put x.dst v) h1 K →
   ∃ st fr1,fZ P w0 (b :: fl) (x :: l) fr h st ∧ FE (hT fr (x :: l) st) fr1 ∧ K fr1 (iK h st) := by
   intro fr' v h1 hfe ho hlen hb hk
   obtain ⟨st,fr1,r1,r2,r3⟩ := aBd hq' hk
   refine ⟨(v,h1) :: st,fr1,?_,?_,r3⟩
   · simp only [fZ]
     exact ⟨eJ (fun t _ => hfe t) ho,hlen,hb,fZ.fe (hfe.put _ _) r1⟩
   · simp only [hT]
     exact (aAg (hfe.put _ _)).trans r2
  cases b with
  | true =>
   cases x with
   | op d g o =>
    simp only [vd] at k
    rcases eZ k with ⟨hw,fr',hfe,k⟩ | ⟨hw,fr',hfe,k⟩
    · unfold fQ at k
      split at k
      · rename_i p hp
        exact step fr' p.1 p.2 hfe (by simp only [opV,hfe.want,hw]; exact ⟨_,_,hp,rfl,rfl⟩) (aJE hp) (fun h => by cases h) k
      · exact k.elim
    · exact step fr' (.tup []) h hfe (by simp [opV,hfe.want,hw]) (Nat.le_refl _) (fun h => by cases h) k
   | call d g f as =>
    simp only [vd] at k
    rcases eZ k with ⟨hw,fr',hfe,k⟩ | ⟨hw,fr',hfe,k⟩
    · obtain ⟨v,h1,k1,k2,k3⟩ := k
      exact step fr' v h1 hfe (by simp only [opV,hfe.want,hw]; exact k1) k2 (fun h => by cases h) k3
    · exact step fr' (.tup []) h hfe (by simp [opV,hfe.want,hw]) (Nat.le_refl _) (fun h => by cases h) k
  | false =>
   have hqx := hq 0 x rfl rfl
   cases x with
   | op d g o =>
    simp only [vd] at k
    rcases eZ k with ⟨hw,fr',hfe,k⟩ | ⟨hw,fr',hfe,k⟩
    · unfold fQ at k
      split at k
      · rename_i p hp
        have e : p.2 = h := lL hqx hp
        exact step fr' p.1 h hfe (by simp only [opV,hfe.want,hw]; exact ⟨_,_,hp,rfl,e⟩) (Nat.le_refl _) (fun _ => rfl) k
      · exact k.elim
    · exact step fr' (.tup []) h hfe (by simp [opV,hfe.want,hw]) (Nat.le_refl _) (fun _ => rfl) k
   | call d g f as =>
    simp only [vd] at k
    rcases eZ k with ⟨hw,fr',hfe,k⟩ | ⟨hw,fr',hfe,k⟩
    · obtain ⟨v,k1,k3⟩ := k
      exact step fr' v h hfe (by simp only [opV,hfe.want,hw]; exact k1) (Nat.le_refl _) (fun _ => rfl) k3
    · exact step fr' (.tup []) h hfe (by simp [opV,hfe.want,hw]) (Nat.le_refl _) (fun _ => rfl) k
def hAt (h : Heap) (st : List (AV × Heap)) : Nat → Heap
 | 0 => h
 | i + 1 => match st[i]? with
  | some p => p.2
  | none => []
def tAt (st : List (AV × Heap)) (i : Nat) : AV :=
 match st[i]? with
 | some p => p.1
 | none => .undef
theorem uL {h : Heap} {p : AV × Heap} {st : List (AV × Heap)} (i : Nat) : hAt h (p :: st) (i + 1) = hAt p.2 st i := by
 cases i with
 | zero => simp [hAt]
 | succ i => simp [hAt]
theorem zG {p : AV × Heap} {st : List (AV × Heap)} (i : Nat) : tAt (p :: st) (i + 1) = tAt st i := by simp [tAt]
def rE (l : List MIx) (st : List (AV × Heap)) (fr : Fr) : Nat → Fr
 | 0 => fr
 | i + 1 => Fr.put (rE l st fr i) (bJ l i) (tAt st i)
theorem aBN {x : MIx} {l : List MIx} (i : Nat) : bJ (x :: l) (i + 1) = bJ l i := by simp [bJ]
theorem rD {x : MIx} {l : List MIx} {p : AV × Heap} {st : List (AV × Heap)} {fr : Fr} : ∀ i,rE (x :: l) (p :: st) fr (i + 1) = rE l st (fr.put x.dst p.1) i
 | 0 => by simp [rE,bJ,tAt]
 | i + 1 => by
  have ih := rD (x := x) (l := l) (p := p) (st := st) (fr := fr) i
  simp only [rE] at ih ⊢
  rw [ih,aBN,zG]
theorem fZ.at_ : ∀ {fl : List Bool} {l : List MIx} {fr : Fr} {h : Heap} {st : List (AV × Heap)},fZ P w0 fl l fr h st → st.length = l.length ∧
 (∀ (i : Nat) x,l[i]? = some x → opV P w0 x (rE l st fr i) (hAt h st i) (fun v' h' => v' = tAt st i ∧ h' = hAt h st (i + 1)) ∧ (hAt h st i).length ≤ (hAt h st (i + 1)).length ∧ (fl.getD i false = false → hAt h st (i + 1) = hAt h st i)) ∧
 iK h st = hAt h st l.length ∧ hT fr l st = rE l st fr l.length
 | _,[],_,_,[],_ => by simp [iK,hAt,hT,rE]
 | _,[],_,_,_ :: _,k => by simp only [fZ] at k
 | [],_ :: _,_,_,_,k => by simp only [fZ] at k
 | _ :: _,_ :: _,_,_,[],k => by simp only [fZ] at k
 | b :: fl,x :: l,fr,h,p :: st,k => by
  simp only [fZ] at k
  obtain ⟨k1,k2,k3,k4⟩ := k
  obtain ⟨i1,i2,i3,i4⟩ := fZ.at_ k4
  refine ⟨by simp [i1],fun i y hy => ?_,?_,?_⟩
  · cases i with
    | zero =>
     simp at hy; subst hy
     refine ⟨by simpa [rE,hAt,tAt] using k1,by simpa [hAt] using k2,fun hb => ?_⟩
     have := k3 (by simpa using hb)
     simpa [hAt] using this
    | succ i =>
     obtain ⟨j1,j2,j3⟩ := i2 i y (by simpa using hy)
     rw [rD,uL,uL,zG]
     exact ⟨j1,j2,fun hb => j3 (by simpa using hb)⟩
  · simp only [iK,List.length_cons]; rw [uL]; exact i3
  · simp only [hT,List.length_cons]; rw [rD]; exact i4
theorem aGY {mc : MC} (e : EvM P w0 r nt Z mc fr h fun e fr h => ∃ fr',FE fr fr' ∧ Q e fr' h) : EvM P w0 r nt Z mc fr h Q := fun c hc m a w B l sa =>
 wpIn_mono (e c hc m a w B l sa) fun _ _ _ ⟨m',_,h',s,sa',fr'',fe,q⟩ => ⟨m',fr'',h',s,sa'.frame' fe.frame,q⟩
open Classical in
noncomputable def eV (fl : List Bool) (h : Heap) (st : List (AV × Heap)) : Lay where
 N i := (hAt h st i).length
 T i := tAt st i
 U i c := if fl.getD i false = true ∧ c < (hAt h st (i + 1)).length ∧ (hAt h st (i + 1))[c]? ≠ (hAt h st i)[c]? then some ((hAt h st (i + 1))[c]?.join) else none
theorem uS {fl : List Bool} {st : List (AV × Heap)} {l : List MIx} : ∀ i,jW (eV fl h st) l fr i = rE l st fr i
 | 0 => rfl
 | i + 1 => by simp only [jW,rE,uS i]; rfl
theorem aDM {bef : List (List Nat)} {i j : Nat} : hY bef i j = hY bef j i := by
 have : Nat.beq j i = Nat.beq i j := by
  cases h1 : Nat.beq i j with
  | true => rw [bD.1 h1]; exact Nat.beq_refl j
  | false =>
   cases h2 : Nat.beq j i with
   | false => rfl
   | true => rw [bD.1 h2] at h1; rw [Nat.beq_refl] at h1; cases h1
 simp only [hY,this]
 congr 1
 exact Bool.and_comm _ _
theorem aDh {fl : List Bool} {l : List MIx} {bef : List (List Nat)} (hm : P.follows .mixedOrders = true) (hok : nA fl l bef = true) {st : List (AV × Heap)} {fr1 : Fr} (k1 : fZ P w0 fl l fr h st) (k2 : FE (hT fr l st) fr1) (k3 : Q .normal fr1 (iK h st)) : EvM P w0 r nt Z (.draw l bef) fr h Q := by
 simp only [nA,List.all_eq_true,List.mem_range] at hok
 have hpin : ∀ i,i < l.length → fl.getD i false = true → ∀ j,j < l.length → hY bef i j = false := fun i hi hf j hj => by
  have := hok i hi
  rw [hf] at this
  simp only [aAr,List.all_eq_true,List.mem_range,Bool.not_eq_true'] at this
  exact this j hj
 obtain ⟨hlen,hrun,hlast,hlastF⟩ := k1.at_
 have hget : ∀ i,i < l.length → ∃ x,l[i]? = some x := fun i hi => ⟨_,List.getElem?_eq_getElem hi⟩
 have hU : ∀ i c,i < l.length → ((eV fl h st).U i c).isSome = true → fl.getD i false = true := fun i c _ hu => by
  simp only [eV] at hu
  split at hu
  · rename_i hc; exact hc.1
  · cases hu
 have hmono : ∀ i,i < l.length → (hAt h st i).length ≤ (hAt h st (i + 1)).length := fun i hi => by
  obtain ⟨x,hx⟩ := hget i hi
  exact (hrun i x hx).2.1
 refine aGY fun c hc => ?_
 obtain ⟨id,ops,hceq,hl,hbeq,hbo,hop⟩ := jY hc
 have hbok := (jZ (bef := bef) (by rw [hbeq]; exact hbo) hl).1
 have hless := hbok.less
 have hA : ∀ (S : Nat → Bool) (i : Nat),i ≤ l.length → (∀ j,i ≤ j → S j = false) → (∀ j,j < i → fl.getD j false = true → S j = true) → ∀ k c,k ≤ l.length →
  hS (eV fl h st) h k S c = ((hAt h st (min k i))[c]?).join := by
  intro S i hi hge hlt k
  induction k with
  | zero => intro c _; simp [hS,hAt]
  | succ k ih =>
   intro c hk
   have ih := ih c (by omega)
   simp only [hS]
   by_cases hki : k < i
   · have e1 : min (k + 1) i = k + 1 := by omega
     have e0 : min k i = k := by omega
     rw [e0] at ih
     rw [e1]
     by_cases hp : fl.getD k false = true
     · rw [if_pos (hlt k hki hp)]
       simp only [eV]
       by_cases hd : c < (hAt h st (k + 1)).length ∧ (hAt h st (k + 1))[c]? ≠ (hAt h st k)[c]?
       · rw [if_pos ⟨hp,hd⟩]
       · rw [if_neg (fun x => hd x.2)]
         change hS (eV fl h st) h k S c = _
         rw [ih]
         by_cases hcl : c < (hAt h st (k + 1)).length
         · have : (hAt h st (k + 1))[c]? = (hAt h st k)[c]? := Classical.byContradiction fun hne => hd ⟨hcl,hne⟩
           rw [this]
         · have := hmono k (by omega)
           rw [List.getElem?_eq_none (by omega),List.getElem?_eq_none (by omega)]
     · obtain ⟨x,hx⟩ := hget k (by omega)
       have heq := (hrun k x hx).2.2 (by simpa using hp)
       have hun : (eV fl h st).U k c = none := by
        cases hu : (eV fl h st).U k c with
        | none => rfl
        | some b => exact absurd (hU k c (by omega) (by simp [hu])) hp
       rw [hun,heq]
       simpa using ih
   · have e1 : min (k + 1) i = i := by omega
     have e0 : min k i = i := by omega
     rw [e0] at ih
     rw [e1,hge k (by omega)]
     simpa using ih
 have hbfr : ∀ i,i < l.length → (∀ j,i ≤ j → bfr bef i j = false) ∧ ∀ j,j < i → fl.getD j false = true → bfr bef i j = true := fun i hi => by
  refine ⟨fun j hj => ?_,fun j hj hp => ?_⟩
  · cases hb : bfr bef i j with
    | false => rfl
    | true => have := hless i j hb; omega
  · have := hpin j (by omega) hp i hi
    have hne : Nat.beq i j = false := by
     cases hb : Nat.beq i j with
     | false => rfl
     | true => have := bD.1 hb; omega
    have hji : bfr bef j i = false := by
     cases hb : bfr bef j i with
     | false => rfl
     | true => have := hless j i hb; omega
    simp only [hY,hne,hji,Bool.not_false,Bool.true_and,Bool.not_eq_false'] at this
    exact this
 have hmask : ∀ i c,i < l.length → masked (eV fl h st) bef l.length i c = false := fun i c hi => by
  cases hmk : masked (eV fl h st) bef l.length i c with
  | false => rfl
  | true =>
   simp only [masked,List.any_eq_true,List.mem_range,Bool.and_eq_true] at hmk
   obtain ⟨j,hj,hf,hu⟩ := hmk
   have := hpin j hj (hU j c hj hu) i hi
   rw [aDM,hf] at this; cases this
 have hjoin : ∀ (k : Heap) (c : Nat),c < k.length → some ((k[c]?).join) = k[c]? := fun k c hc => by
  rw [List.getElem?_eq_getElem hc]; rfl
 have hview : ∀ i,i < l.length → gU (eV fl h st) bef h l.length i = hAt h st i := fun i hi => by
  refine List.ext_getElem? fun c => ?_
  simp only [gU,List.getElem?_map]
  by_cases hc : c < (hAt h st i).length
  · rw [List.getElem?_range (show c < (eV fl h st).N i from hc)]
    simp only [Option.map_some,hmask i c hi,Bool.false_eq_true,if_false]
    rw [hA (bfr bef i) i (by omega) (hbfr i hi).1 (hbfr i hi).2 l.length c (Nat.le_refl _)]
    have e0 : min l.length i = i := by omega
    rw [e0]; exact hjoin _ c hc
  · rw [List.getElem?_eq_none (by simpa [eV] using hc),List.getElem?_eq_none (by omega)]; rfl
 have hpost : ∀ i,i < l.length → kM (eV fl h st) bef h l.length i = hAt h st (i + 1) := fun i hi => by
  refine List.ext_getElem? fun c => ?_
  simp only [kM,List.getElem?_map,hview i hi]
  by_cases hc : c < (hAt h st (i + 1)).length
  · rw [List.getElem?_range (show c < (eV fl h st).N (i + 1) from hc)]
    simp only [Option.map_some]
    split
    · rename_i b hu
      simp only [eV] at hu
      split at hu
      · cases hu; exact hjoin _ c hc
      · cases hu
    · rename_i hu
      have heq : (hAt h st (i + 1))[c]? = (hAt h st i)[c]? := by
       by_cases hp : fl.getD i false = true
       · refine Classical.byContradiction fun hne => ?_
         simp only [eV] at hu
         rw [if_pos ⟨hp,hc,hne⟩] at hu; cases hu
       · obtain ⟨x,hx⟩ := hget i hi
         rw [(hrun i x hx).2.2 (by simpa using hp)]
      rw [← heq]; exact hjoin _ c hc
  · rw [List.getElem?_eq_none (by simpa [eV] using hc),List.getElem?_eq_none (by omega)]; rfl
 refine aEj (h := h) hm (eV fl h st) rfl hmono (fun i c _ hu => ?_) (fun i j c hi hj hf hu => ?_) (fun i j hij hj hf hN => ?_) (fun i x hx => ?_) ?_ c hc
 · simp only [eV] at hu
   split at hu
   · rename_i hcc; exact hcc.2.1
   · cases hu
 · have := hpin i hi (hU i c hi hu) j hj
   rw [hf] at this; cases this
 · exfalso
   by_cases hp : fl.getD i false = true
   · have := hpin i (by omega) hp j hj
     rw [hf] at this; cases this
   · obtain ⟨x,hx⟩ := hget i (by omega)
     have := (hrun i x hx).2.2 (by simpa using hp)
     simp only [eV,this,Nat.lt_irrefl] at hN
 · have hi := aI hx
   rw [uS,hview i hi,hpost i hi]
   exact (hrun i x hx).1
 · refine ⟨fr1,?_,?_⟩
   · rw [uS,← hlastF]; exact k2
   · have : eY (eV fl h st) h l.length rQ = iK h st := by
      rw [hlast]
      refine List.ext_getElem? fun c => ?_
      simp only [eY,List.getElem?_map]
      have hS' : hS (eV fl h st) h l.length rQ c = hS (eV fl h st) h l.length (fun j => Nat.blt j l.length) c := mV _ fun j hj _ => by
       simp only [rQ]; exact (by simpa [Nat.blt_eq] using hj : Nat.blt j l.length = true).symm
      by_cases hc : c < (hAt h st l.length).length
      · rw [List.getElem?_range (show c < (eV fl h st).N l.length from hc)]
        simp only [Option.map_some]
        rw [hS',hA (fun j => Nat.blt j l.length) l.length (Nat.le_refl _) (fun j hj => by
         cases hb : Nat.blt j l.length with
         | false => rfl
         | true => simp [Nat.blt_eq] at hb; omega) (fun j hj _ => by simpa [Nat.blt_eq] using hj) l.length c (Nat.le_refl _),Nat.min_self]
        exact hjoin _ c hc
      · rw [List.getElem?_eq_none (by simpa [eV] using hc),List.getElem?_eq_none (by omega)]; rfl
     rw [this]; exact k3
theorem EvM_vd {fl : List Bool} {l : List MIx} {bef : List (List Nat)} (hm : P.follows .mixedOrders = true) (hok : nA fl l bef = true) (e : vd P w0 fl l fr h (Q .normal)) : EvM P w0 r nt Z (.draw l bef) fr h Q := by
 have hok' := hok
 simp only [nA,List.all_eq_true,List.mem_range] at hok'
 have hqx : ∀ (i : Nat) x,fl.getD i false = false → l[i]? = some x → qix x = true := fun i x hf hx => by
  have := hok' i (aI hx)
  rw [hf,hx] at this
  exact this
 obtain ⟨st,fr1,k1,k2,k3⟩ := aBd hqx e
 exact aDh hm hok k1 k2 k3
theorem fZ.snoc {b : Bool} {x : MIx} {p : AV × Heap} : ∀ {fl : List Bool} {l : List MIx} {fr : Fr} {h : Heap} {st : List (AV × Heap)},fl.length = l.length → fZ P w0 fl l fr h st →
 opV P w0 x (hT fr l st) (iK h st) (fun v' h' => v' = p.1 ∧ h' = p.2) → (iK h st).length ≤ p.2.length → (b = false → p.2 = iK h st) →
 fZ P w0 (fl ++ [b]) (l ++ [x]) fr h (st ++ [p]) ∧ hT fr (l ++ [x]) (st ++ [p]) = (hT fr l st).put x.dst p.1 ∧ iK h (st ++ [p]) = p.2
 | [],[],fr,h,[],_,_,h1,h2,h3 => by
  simp only [List.nil_append,fZ,hT,iK] at h1 h2 h3 ⊢
  refine ⟨⟨h1,h2,h3,trivial⟩,?_,?_⟩ <;> first | rfl | trivial
 | [],[],_,_,_ :: _,_,k,_,_,_ => by simp only [fZ] at k
 | [],_ :: _,_,_,_,hl,_,_,_,_ => by simp at hl
 | _ :: _,[],_,_,_,hl,_,_,_,_ => by simp at hl
 | _ :: _,_ :: _,_,_,[],_,k,_,_,_ => by simp only [fZ] at k
 | c :: fl,y :: l,fr,h,q :: st,hl,k,h1,h2,h3 => by
  simp only [fZ] at k
  simp only [hT,iK] at h1 h2 h3
  obtain ⟨r1,r2,r3⟩ := fZ.snoc (fl := fl) (l := l) (by simpa using hl) k.2.2.2 h1 h2 h3
  simp only [List.cons_append,fZ,hT,iK]
  exact ⟨⟨k.1,k.2.1,k.2.2.1,r1⟩,r2,r3⟩
theorem wQ {l1 : List MIx} (i : Nat) : (l1.map fun _ => false).getD i false = false := by
 rw [List.getD_eq_getElem?_getD,List.getElem?_map]
 cases l1[i]? <;> rfl
theorem aJT {l1 : List MIx} {d : Option Nat} {f : Opd} {as : List Opd} {bef : List (List Nat)} (hm : P.follows .mixedOrders = true) (hok : nA (l1.map (fun _ => false) ++ [true]) (l1 ++ [.call d none f as]) bef = true) (hlast : ∀ j,j < l1.length → bfr bef l1.length j = true)
 (e : vd P w0 (l1.map fun _ => false) l1 fr h fun fr h => callE P w0 (f.ev fr) (as.map (·.ev fr)) h (fun v => Q .normal (fr.put d v) h) (fun x => Q (.panic (pan x)) fr h)) : EvM P w0 r nt Z (.draw (l1 ++ [.call d none f as]) bef) fr h Q := by
 have hqx : ∀ (i : Nat) x,(l1.map fun _ => false).getD i false = false → l1[i]? = some x → qix x = true := fun i x _ hx => by
  have hi := aI hx
  have hok' := hok
  simp only [nA,List.all_eq_true,List.mem_range] at hok'
  have := hok' i (by simp; omega)
  rw [List.getD_eq_getElem?_getD,List.getElem?_append_left (by simpa using hi),← List.getD_eq_getElem?_getD,wQ,List.getElem?_append_left hi,hx] at this
  exact this
 obtain ⟨st,fr1,k1,k2,k3⟩ := aBd hqx e
 obtain ⟨hlen,hrun,hlastH,hlastF⟩ := k1.at_
 have hquiet : ∀ i,i ≤ l1.length → hAt h st i = h := by
  intro i
  induction i with
  | zero => intro _; rfl
  | succ i ih =>
   intro hi
   obtain ⟨x,hx⟩ : ∃ x,l1[i]? = some x := ⟨_,List.getElem?_eq_getElem (by omega)⟩
   have := (hrun i x hx).2.2 (wQ i)
   rw [this]; exact ih (by omega)
 have hfin : ∀ i,i ≤ l1.length → jW (jD h (tAt st)) (l1 ++ [.call d none f as]) fr i = rE l1 st fr i := by
  intro i
  induction i with
  | zero => intro _; rfl
  | succ i ih =>
   intro hi
   have hd : bJ (l1 ++ [.call d none f as]) i = bJ l1 i := by simp only [bJ,List.getElem?_append_left (show i < l1.length by omega)]
   simp only [jW,rE,ih (by omega),hd]; rfl
 have hH : iK h st = h := by rw [hlastH]; exact hquiet _ (Nat.le_refl _)
 rw [hH] at k3
 rcases k3 with ⟨v,c1,c2⟩ | ⟨x,c1,c2⟩
 · -- all runs through
   obtain ⟨r1,r2,r3⟩ := fZ.snoc (b := true) (x := .call d none f as) (p := (v,h)) (by simp) k1 (by
    simp only [opV,want,hH]
    rw [← aU (fun t _ => k2 t),← jN (fun t _ => k2 t)]
    exact c1) (by rw [hH]; exact Nat.le_refl _) (fun h => by cases h)
   refine aDh hm hok r1 (fr1 := fr1.put d v) ?_ ?_
   · rw [r2]; exact k2.put d v
   · rw [r3]; exact c2
 · have hfr : FE (jW (jD h (tAt st)) (l1 ++ [.call d none f as]) fr l1.length) fr1 := by
    rw [hfin _ (Nat.le_refl _),← hlastF]; exact k2
   refine aGY (aEi hm rfl (tAt st) x hlast (fun i y hi hy => ?_) ?_ ⟨fr1,hfr,c2⟩)
   · rw [List.getElem?_append_left hi] at hy
     have := (hrun i y hy).1
     rw [hfin i (by omega)]
     rw [hquiet i (by omega),hquiet (i + 1) (by omega)] at this
     exact this
   · rw [← aU (fun t _ => hfr t),← jN (fun t _ => hfr t)]
     exact c1
theorem aEk {o : Opd} {x y : MC} (k : sN o fr (fun fr => EvM P w0 r nt Z x fr h Q) (fun fr => EvM P w0 r nt Z y fr h Q)) : EvM P w0 r nt Z (.cond o x y) fr h Q := by
 cases o with
 | t t =>
  simp only [sN] at k
  generalize hv : fr.get t = v at k
  unfold cv at k
  split at k
  · rename_i c
    refine vG (t := c) (by simpa [Opd.ev] using hv) ?_
    cases c with
    | true => exact rS (FE.put1 hv).frame (k.1 rfl)
    | false => exact rS (FE.put1 hv).frame (k.2 rfl)
  · exact k.elim
 | k v =>
  unfold sN at k
  split at k
  · rename_i h1; cases h1
  · rename_i h1; cases h1; exact vG (t := true) rfl k
  · rename_i h1; cases h1; exact vG (t := false) rfl k
  · exact k.elim
theorem nL : ∀ (ks : List Nat) (fr : Fr) (t : Nat),(gN fr ks).get t = .undef ∨ (gN fr ks).get t = fr.get t
 | [],_,_ => .inl rfl
 | k :: ks,fr,t => by
  simp only [gN,Fr.get]
  cases hb : Nat.beq t k with
  | true => right; rw [bD.1 hb]; rfl
  | false => exact nL ks fr t
theorem gQ {g : Option (Nat × Bool)} {A B A' B' : Fr → Prop} (k : jU g fr A B) (ha : ∀ fr,A fr → A' fr) (hb : ∀ fr,B fr → B' fr) : jU g fr A' B' := by
 cases g with
 | none => exact ha _ k
 | some p =>
  simp only [jU] at k ⊢
  generalize fr.get p.1 = v at k
  unfold gv at k ⊢
  split at k
  · exact ⟨fun e => ha _ (k.1 e),fun e => hb _ (k.2 e)⟩
  · exact hb _ k
  · exact k.elim
theorem oZ {o : Option (AV × Heap)} {K K' : AV → Heap → Prop} (k : fQ o K) (hk : ∀ v h,K v h → K' v h) : fQ o K' := by
 unfold fQ at *
 split at k
 · exact hk _ _ k
 · exact k.elim
theorem jG : ∀ {l : List MIx} {fr : Fr} {h : Heap} {K K' : Fr → Heap → Prop},vc P w0 l fr h K → (∀ fr h,K fr h → K' fr h) → vc P w0 l fr h K'
 | [],_,_,_,_,k,hk => hk _ _ k
 | .op d g o :: l,fr,h,K,K',k,hk => by
  simp only [vc] at k ⊢
  exact gQ k (fun _ k => oZ k fun _ _ k => jG k hk) (fun _ k => jG k hk)
 | .call d g f as :: l,fr,h,K,K',k,hk => by
  simp only [vc] at k ⊢
  exact gQ k (fun _ k => aS.mono k fun _ _ k => jG k hk) (fun _ k => jG k hk)
theorem iR : ∀ {fl : List Bool} {l : List MIx} {fr : Fr} {h : Heap} {K K' : Fr → Heap → Prop},vd P w0 fl l fr h K → (∀ fr h,K fr h → K' fr h) → vd P w0 fl l fr h K'
 | [],[],_,_,_,_,k,hk => by simp only [vd] at k ⊢; exact hk _ _ k
 | true :: _,[],_,_,_,_,k,hk => by simp only [vd] at k ⊢; exact hk _ _ k
 | false :: _,[],_,_,_,_,k,hk => by simp only [vd] at k ⊢; exact hk _ _ k
 | [],_ :: _,_,_,_,_,k,_ => by simp only [vd] at k
 | true :: fl,.op d g o :: l,fr,h,K,K',k,hk => by
  simp only [vd] at k ⊢
  exact gQ k (fun _ k => oZ k fun _ _ k => iR k hk) (fun _ k => iR k hk)
 | false :: fl,.op d g o :: l,fr,h,K,K',k,hk => by
  simp only [vd] at k ⊢
  exact gQ k (fun _ k => oZ k fun _ _ k => iR k hk) (fun _ k => iR k hk)
 | true :: fl,.call d g f as :: l,fr,h,K,K',k,hk => by
  simp only [vd] at k ⊢
  exact gQ k (fun _ ⟨v,h1,k1,k2,k3⟩ => ⟨v,h1,k1,k2,iR k3 hk⟩) (fun _ k => iR k hk)
 | false :: fl,.call d g f as :: l,fr,h,K,K',k,hk => by
  simp only [vd] at k ⊢
  exact gQ k (fun _ ⟨v,k1,k3⟩ => ⟨v,k1,iR k3 hk⟩) (fun _ k => iR k hk)
theorem uW {o : Opd} {A B A' B' : Fr → Prop} (k : sN o fr A B) (ha : ∀ fr,A fr → A' fr) (hb : ∀ fr,B fr → B' fr) : sN o fr A' B' := by
 cases o with
 | t t =>
  simp only [sN] at k ⊢
  generalize fr.get t = v at k
  unfold cv at k ⊢
  split at k
  · exact ⟨fun e => ha _ (k.1 e),fun e => hb _ (k.2 e)⟩
  · exact k.elim
 | k v =>
  unfold sN at k ⊢
  split at k
  · rename_i h1; cases h1
  · rename_i h1; cases h1; exact ha _ k
  · rename_i h1; cases h1; exact hb _ k
  · exact k.elim
theorem xX {Q Q' : Exit → Fr → Heap → Prop} (hq : ∀ e fr h,Q e fr h → Q' e fr h) {e : Exit} {fr : Fr} {h : Heap} (k : pR Q e fr h) : pR Q' e fr h := by
 cases e <;> first | exact k.elim | exact hq _ _ _ k
theorem aEc {id : Nat} {Q Q' : Exit → Fr → Heap → Prop} (hq : ∀ e fr h,Q e fr h → Q' e fr h) {e : Exit} {fr : Fr} {h : Heap} (k : aBU id Q e fr h) : aBU id Q' e fr h := by
 cases e with
 | exit i =>
  simp only [aBU] at k ⊢
  split <;> rename_i hi
  · rw [if_pos hi] at k; exact hq _ _ _ k
  · rw [if_neg hi] at k; exact hq _ _ _ k
 | _ => exact hq _ _ _ k
theorem iS : ∀ (c : SC) {fr : Fr} {h : Heap} {Q Q' : Exit → Fr → Heap → Prop},sx P w0 r nt Z c fr h Q → (∀ e fr h,Q e fr h → Q' e fr h) → sx P w0 r nt Z c fr h Q'
 | .skip,_,_,_,_,k,hq => hq _ _ _ k
 | .ret,_,_,_,_,k,hq => hq _ _ _ k
 | .exit _,_,_,_,_,k,hq => hq _ _ _ k
 | .reg l,_,_,_,_,k,hq => by simp only [sx] at k ⊢; exact jG k fun _ _ k => hq _ _ _ k
 | .draw [] l bef,_,_,_,_,k,hq => by simp only [sx] at k ⊢; exact k.mono hq
 | .draw (b :: fl) l bef,_,_,_,_,k,hq => by simp only [sx] at k ⊢; exact iR k fun _ _ k => hq _ _ _ k
 | .seq a b,_,_,_,_,k,hq => by
  simp only [sx] at k ⊢
  refine iS a k fun e fr h k => ?_
  cases e with
  | normal => exact iS b k hq
  | _ => exact hq _ _ _ k
 | .cond c a b,_,_,_,_,k,hq => by simp only [sx] at k ⊢; exact uW k (fun _ k => iS a k hq) (fun _ k => iS b k hq)
 | .blk id a,_,_,_,_,k,hq => by simp only [sx] at k ⊢; exact iS a k fun _ _ _ k => aEc hq k
 | .loop keep a,_,_,_,_,k,hq => by simp only [sx] at k ⊢; exact k.mono hq
 | .rng f ps ca cb ma mb,_,_,_,_,k,hq => by simp only [sx] at k ⊢; exact k.mono hq
 | .lab _,_,_,_,_,k,hq => hq _ _ _ k
 | .scope a,_,_,_,_,k,hq => by simp only [sx] at k ⊢; exact iS a k fun _ _ _ k => xX hq k
 | .regC l1 d f as l2,_,_,_,_,k,hq => by simp only [sx] at k ⊢; exact jG k fun _ _ k => k.mono (fun _ _ k => jG k fun _ _ k => hq _ _ _ k) (fun _ _ k => hq _ _ _ k)
 | .regP l1 d x l2,_,_,_,_,k,hq => by simp only [sx] at k ⊢; exact jG k fun _ _ k => ⟨k.1,hq _ _ _ k.2⟩
 | .drawE l1 d f as bef,_,_,_,_,k,hq => by
  simp only [sx] at k ⊢
  refine iR k fun _ _ k => ?_
  rcases k with ⟨v,k1,k2⟩ | ⟨x,k1,k2⟩
  · exact .inl ⟨v,k1,hq _ _ _ k2⟩
  · exact .inr ⟨x,k1,hq _ _ _ k2⟩
theorem dF (hm : P.follows .mixedOrders = true) : ∀ (c : SC) {fr : Fr} {h : Heap} {Q : Exit → Fr → Heap → Prop},c.good = true → sx P w0 r nt Z c fr h Q → EvM P w0 r nt Z c.er fr h Q
 | .skip,_,_,_,_,k => aGR k
 | .ret,_,_,_,_,k => aJW k
 | .exit _,_,_,_,_,k => aGW k
 | .reg l,_,_,_,_,k => EvM_vc k
 | .draw [] l bef,_,_,_,_,k => by simp only [sx] at k; exact k
 | .draw (b :: fl) l bef,_,_,_,g,k => EvM_vd hm g (by simpa only [sx] using k)
 | .seq a b,_,_,_,g,k => by
  simp only [SC.good,Bool.and_eq_true] at g
  simp only [sx] at k
  refine aJU ((dF hm a g.1 k).mono fun e fr h q => ?_)
  cases e with
  | normal => exact dF hm b g.2 q
  | _ => exact q
 | .cond c a b,_,_,_,g,k => by
  simp only [SC.good,Bool.and_eq_true] at g
  simp only [sx] at k
  exact aEk (uW k (fun _ k => dF hm a g.1 k) (fun _ k => dF hm b g.2 k))
 | .blk id a,_,_,_,g,k => by
  simp only [sx] at k
  exact aJY (dF hm a g k)
 | .loop keep a,fr,_,_,g,k => by
  simp only [sx] at k
  exact aGU (xC (nL keep fr) k)
 | .rng f ps ca cb ma mb,_,_,_,g,k => by simp only [sx] at k; exact k
 | .lab _,_,_,_,_,k => aJX k
 | .scope a,_,_,_,g,k => by
  simp only [sx] at k
  exact aEh (dF hm a g k)
 | .regC l1 d f as l2,_,_,_,_,k => aGT (by simpa only [sx] using k)
 | .regP l1 d x l2,_,_,_,_,k => aGS (by simpa only [sx] using k)
 | .drawE l1 d f as bef,_,_,_,g,k => by
  simp only [SC.good,Bool.and_eq_true,List.all_eq_true,List.mem_range] at g
  simp only [sx] at k
  exact aJT hm g.1 g.2 k
def aFM (P : Program) (w0 : World) (r : Option Nat) (nt Z : Nat) (keep : List Nat) (a : SC) (Q : Exit → Fr → Heap → Prop) : Exit → Fr → Heap → Prop
 | .normal,fr,h => EvL P w0 r nt Z a.er (gN fr keep) h Q
 | e,fr,h => Q e fr h
theorem EvL_sx (hm : P.follows .mixedOrders = true) {a : SC} (g : a.good = true) (keep : List Nat) (e : sx P w0 r nt Z a fr h (aFM P w0 r nt Z keep a Q)) : EvL P w0 r nt Z a.er fr h Q := by
 refine aGZ ((dF hm a g e).mono fun e fr h q => ?_)
 cases e with
 | normal => exact xC (nL keep fr) q
 | _ => exact q
def resK (w0 : World) (rs : List RV) (K : AV → Heap → Prop) : Exit → Fr → Heap → Prop
 | .normal,fr,h => ∃ v,iG w0 rs fr h = some v ∧ K v h
 | .ret,fr,h => ∃ v,iG w0 rs fr h = some v ∧ K v h
 | _,_,_ => False
theorem bM (hm : P.follows .mixedOrders = true) {f : FuncId} {mf : SF} (hf : bF P f = some mf.er) (hb : aG P f = true) (g : mf.body.good = true) {args : List AV} (hn : args.length ≤ mf.nt) {K : AV → Heap → Prop}
 (e : HB h → AV.bdds h.length args → sx P w0 none mf.nt h.length mf.body (eO args 0) (h ++ []) (resK w0 mf.res K)) : ACall P w0 f args h K :=
 aB4 (mf := mf.er) hf hb hn fun h1 h2 => (dF (nt := mf.nt) hm mf.body g (by have := e h1 h2; rw [List.append_nil] at this; exact this)).mono fun e fr h q => by
  cases e with
  | normal => exact ⟨.inl rfl,q⟩
  | ret => exact ⟨.inr rfl,q⟩
  | _ => exact q.elim
def aM (P : Program) (w0 : World) (f : FuncId) (args : List AV) (h : Heap) (v : AV) (h1 : Heap) : Prop :=
 ACall P w0 f args h fun v' h' => v' = v ∧ h' = h1
theorem mF {f : FuncId} {args : List AV} {K : AV → Heap → Prop} (e : ACall P w0 f args h fun v h' => ∃ h1 k,h' = h1 ++ k ∧ h.length ≤ h1.length ∧ HB h1 ∧ v.bdd h1.length ∧ K v h1) : ACall P w0 f args h K := by
 refine ⟨e.1,fun m w vs s hv hb => (e.2 m w vs s hv hb).mono fun en w' ⟨v',e1,m',v,h',st,hvr,_,h1,k,hh,hle,hhb,hbd,hk⟩ => ?_⟩
 subst hh
 exact ⟨v',e1,m',v,h1,st.drop hle hhb,hvr,hbd,hk⟩
def aBs (w0 : World) (rs : List RV) (h : Heap) (v : AV) : Exit → Fr → Heap → Prop
 | .normal,fr,h' => iG w0 rs fr h' = some v ∧ ∃ k,h' = h ++ k
 | .ret,fr,h' => iG w0 rs fr h' = some v ∧ ∃ k,h' = h ++ k
 | _,_,_ => False
theorem aL (hm : P.follows .mixedOrders = true) {f : FuncId} {mf : SF} (hf : bF P f = some mf.er) (hb : aG P f = true) (g : mf.body.good = true) {args : List AV} (hn : args.length ≤ mf.nt) {v : AV}
 (hv : v.bdd h.length) (e : HB h → AV.bdds h.length args → sx P w0 none mf.nt h.length mf.body (eO args 0) (h ++ []) (aBs w0 mf.res h v)) : aM P w0 f args h v h := by
 refine mF (bM hm hf hb g hn fun h1 h2 => iS _ (e h1 h2) fun e fr h' q => ?_)
 have : ∀ {fr : Fr} {h' : Heap},(iG w0 mf.res fr h' = some v ∧ ∃ k,h' = h ++ k) → HB h → ∃ v',iG w0 mf.res fr h' = some v' ∧ ∃ h1 k,h' = h1 ++ k ∧ h.length ≤ h1.length ∧ HB h1 ∧ v'.bdd h1.length ∧ v' = v ∧ h1 = h :=
  fun ⟨q1,k,q2⟩ hb => ⟨v,q1,h,k,q2,Nat.le_refl _,hb,hv,rfl,rfl⟩
 cases e with
 | normal => exact this q h1
 | ret => exact this q h1
 | _ => exact q.elim
end
end Go.Proofs.Ab
namespace Go.Proofs.Ab
open Go
section
variable {P : Program} {w0 : World} {r : Option Nat} {nt Z : Nat} {fr : Fr} {h : Heap} {Q : Exit → Fr → Heap → Prop}
inductive It where
 | code (c : SC)
 | inBlk (id : Nat)
 | inScope
 | inLoop (keep : List Nat) (a : SC)
 | callE (d : Option Nat) (f : Opd) (as : List Opd) (l : List MIx)
 | panE (x : Opd)
 | callQ (d : Option Nat) (f : Opd) (as : List Opd)
def unw (P : Program) (w0 : World) (r : Option Nat) (nt Z : Nat) (Q : Exit → Fr → Heap → Prop) : List It → Exit → Fr → Heap → Prop
 | [] => Q
 | .code c :: k => seqK (fun fr h => sx P w0 r nt Z c fr h (unw P w0 r nt Z Q k)) (unw P w0 r nt Z Q k)
 | .inBlk id :: k => aBU id (unw P w0 r nt Z Q k)
 | .inScope :: k => pR (unw P w0 r nt Z Q k)
 | .inLoop keep a :: k => aFM P w0 r nt Z keep a (unw P w0 r nt Z Q k)
 | .callE d f as l :: k => seqK (fun fr h => fL P w0 (f.ev fr) (as.map (·.ev fr)) h (fun v h' => vc P w0 l (fr.put d v) h' (unw P w0 r nt Z Q k .normal)) (fun ch h' => unw P w0 r nt Z Q k (.panic ch) fr h')) (unw P w0 r nt Z Q k)
 | .callQ d f as :: k => seqK (fun fr h => callE P w0 (f.ev fr) (as.map (·.ev fr)) h (fun v => unw P w0 r nt Z Q k .normal (fr.put d v) h) (fun x => unw P w0 r nt Z Q k (.panic (pan x)) fr h)) (unw P w0 r nt Z Q k)
 | .panE x :: k => seqK (fun fr h => qA (x.ev fr) = true ∧ unw P w0 r nt Z Q k (.panic (pan (x.ev fr))) fr h) (unw P w0 r nt Z Q k)
def ex (P : Program) (w0 : World) (r : Option Nat) (nt Z : Nat) (Q : Exit → Fr → Heap → Prop) (c : SC) (k : List It) (fr : Fr) (h : Heap) : Prop := sx P w0 r nt Z c fr h (unw P w0 r nt Z Q k)
def un (P : Program) (w0 : World) (r : Option Nat) (nt Z : Nat) (Q : Exit → Fr → Heap → Prop) (e : Exit) (k : List It) (fr : Fr) (h : Heap) : Prop := unw P w0 r nt Z Q k e fr h
def rv (P : Program) (w0 : World) (r : Option Nat) (nt Z : Nat) (Q : Exit → Fr → Heap → Prop) (l : List MIx) (k : List It) (fr : Fr) (h : Heap) : Prop := vc P w0 l fr h (unw P w0 r nt Z Q k .normal)
def rvG (P : Program) (w0 : World) (r : Option Nat) (nt Z : Nat) (Q : Exit → Fr → Heap → Prop) (v : AV) (t : Nat) (b : Bool) (x : MIx) (l : List MIx) (k : List It) (fr : Fr) (h : Heap) : Prop :=
 match x with
 | .op d _ o => gv v t b fr (fun fr => fQ (aop w0 o fr h) fun v h' => rv P w0 r nt Z Q l k (fr.put d v) h') (fun fr => rv P w0 r nt Z Q l k (fr.put d (.tup [])) h)
 | .call d _ f as => gv v t b fr (fun fr => aCH P w0 (f.ev fr) (as.map (·.ev fr)) h fun v h' => rv P w0 r nt Z Q l k (fr.put d v) h') (fun fr => rv P w0 r nt Z Q l k (fr.put d (.tup [])) h)
def rvB (P : Program) (w0 : World) (r : Option Nat) (nt Z : Nat) (Q : Exit → Fr → Heap → Prop) (o : Option (AV × Heap)) (d : Option Nat) (l : List MIx) (k : List It) (fr : Fr) : Prop :=
 fQ o fun v h' => rv P w0 r nt Z Q l k (fr.put d v) h'
def rvC (P : Program) (w0 : World) (r : Option Nat) (nt Z : Nat) (Q : Exit → Fr → Heap → Prop) (f : AV) (as : List AV) (d : Option Nat) (l : List MIx) (k : List It) (fr : Fr) (h : Heap) : Prop :=
 aCH P w0 f as h fun v h' => rv P w0 r nt Z Q l k (fr.put d v) h'
def rd' (P : Program) (w0 : World) (r : Option Nat) (nt Z : Nat) (Q : Exit → Fr → Heap → Prop) (fl : List Bool) (l : List MIx) (k : List It) (fr : Fr) (h : Heap) : Prop := vd P w0 fl l fr h (unw P w0 r nt Z Q k .normal)
def rdG (P : Program) (w0 : World) (r : Option Nat) (nt Z : Nat) (Q : Exit → Fr → Heap → Prop) (v : AV) (t : Nat) (b : Bool) (p : Bool) (x : MIx) (fl : List Bool) (l : List MIx) (k : List It) (fr : Fr) (h : Heap) : Prop :=
 match x with
 | .op d _ o => gv v t b fr (fun fr => fQ (aop w0 o fr h) fun v h' => rd' P w0 r nt Z Q fl l k (fr.put d v) (match p with | true => h' | false => h)) (fun fr => rd' P w0 r nt Z Q fl l k (fr.put d (.tup [])) h)
 | .call d _ f as => gv v t b fr (fun fr => match p with
  | true => aGn P w0 (f.ev fr) (as.map (·.ev fr)) h fun v h' => rd' P w0 r nt Z Q fl l k (fr.put d v) h'
  | false => callQ P w0 (f.ev fr) (as.map (·.ev fr)) h fun v => rd' P w0 r nt Z Q fl l k (fr.put d v) h) (fun fr => rd' P w0 r nt Z Q fl l k (fr.put d (.tup [])) h)
def rdB (P : Program) (w0 : World) (r : Option Nat) (nt Z : Nat) (Q : Exit → Fr → Heap → Prop) (p : Bool) (o : Option (AV × Heap)) (d : Option Nat) (fl : List Bool) (l : List MIx) (k : List It) (fr : Fr) (h : Heap) : Prop :=
 fQ o fun v h' => rd' P w0 r nt Z Q fl l k (fr.put d v) (match p with | true => h' | false => h)
def rdC (P : Program) (w0 : World) (r : Option Nat) (nt Z : Nat) (Q : Exit → Fr → Heap → Prop) (p : Bool) (f : AV) (as : List AV) (d : Option Nat) (fl : List Bool) (l : List MIx) (k : List It) (fr : Fr) (h : Heap) : Prop :=
 match p with
 | true => aGn P w0 f as h fun v h' => rd' P w0 r nt Z Q fl l k (fr.put d v) h'
 | false => callQ P w0 f as h fun v => rd' P w0 r nt Z Q fl l k (fr.put d v) h
def exC (P : Program) (w0 : World) (r : Option Nat) (nt Z : Nat) (Q : Exit → Fr → Heap → Prop) (v : AV) (t : Nat) (a b : SC) (k : List It) (fr : Fr) (h : Heap) : Prop :=
 cv v t fr (fun fr => ex P w0 r nt Z Q a k fr h) (fun fr => ex P w0 r nt Z Q b k fr h)
def lp (P : Program) (w0 : World) (r : Option Nat) (nt Z : Nat) (Q : Exit → Fr → Heap → Prop) (a : SC) (k : List It) (fr : Fr) (h : Heap) : Prop := EvL P w0 r nt Z a.er fr h (unw P w0 r nt Z Q k)
def rg (P : Program) (w0 : World) (r : Option Nat) (nt Z : Nat) (Q : Exit → Fr → Heap → Prop) (f : Opd) (ps : Array Tmp) (ca cb : Code) (ma mb : SC) (k : List It) (fr : Fr) (h : Heap) : Prop := EvM P w0 r nt Z (.rng f ps ca cb ma.er mb.er) fr h (unw P w0 r nt Z Q k)
def dr (P : Program) (w0 : World) (r : Option Nat) (nt Z : Nat) (Q : Exit → Fr → Heap → Prop) (l : List MIx) (bef : List (List Nat)) (k : List It) (fr : Fr) (h : Heap) : Prop := EvM P w0 r nt Z (.draw l bef) fr h (unw P w0 r nt Z Q k)
def rcE (P : Program) (w0 : World) (r : Option Nat) (nt Z : Nat) (Q : Exit → Fr → Heap → Prop) (f : AV) (as : List AV) (d : Option Nat) (l : List MIx) (k : List It) (fr : Fr) (h : Heap) : Prop :=
 fL P w0 f as h (fun v h' => rv P w0 r nt Z Q l k (fr.put d v) h') (fun ch h' => un P w0 r nt Z Q (.panic ch) k fr h')
def rcP (P : Program) (w0 : World) (r : Option Nat) (nt Z : Nat) (Q : Exit → Fr → Heap → Prop) (x : AV) (k : List It) (fr : Fr) (h : Heap) : Prop := qA x = true ∧ un P w0 r nt Z Q (.panic (pan x)) k fr h
def rcQ (P : Program) (w0 : World) (r : Option Nat) (nt Z : Nat) (Q : Exit → Fr → Heap → Prop) (f : AV) (as : List AV) (d : Option Nat) (k : List It) (fr : Fr) (h : Heap) : Prop :=
 callE P w0 f as h (fun v => un P w0 r nt Z Q .normal k (fr.put d v) h) (fun x => un P w0 r nt Z Q (.panic (pan x)) k fr h)
theorem aCd {f : AV} {as : List AV} {d : Option Nat} {k : List It} {v : AV} (c : aP P w0 f as h v h) (e : un P w0 r nt Z Q .normal k (fr.put d v) h) : rcQ P w0 r nt Z Q f as d k fr h := .inl ⟨v,c,e⟩
theorem xR {f : AV} {as : List AV} {d : Option Nat} {k : List It} {x : AV} (c : PanV P w0 f as h x) (e : un P w0 r nt Z Q (.panic (pan x)) k fr h) : rcQ P w0 r nt Z Q f as d k fr h := .inr ⟨x,c,e⟩
theorem aX {c : SC} (e : ex P w0 r nt Z Q c [] fr h) : sx P w0 r nt Z c fr h Q := e
theorem aBK {c : SC} {keep : List Nat} {k : List It} (e : ex P w0 r nt Z Q c (.inLoop keep c :: k) fr h) : sx P w0 r nt Z c fr h (aFM P w0 r nt Z keep c (unw P w0 r nt Z Q k)) := e
section machine
variable {k : List It} {l : List MIx} {fl : List Bool} {d : Option Nat} {t id : Nat}
@[go_sem] theorem ex_skip : ex P w0 r nt Z Q .skip k fr h = un P w0 r nt Z Q .normal k fr h := (rfl)
@[go_sem] theorem ex_ret : ex P w0 r nt Z Q .ret k fr h = un P w0 r nt Z Q .ret k fr h := (rfl)
@[go_sem] theorem ex_exit : ex P w0 r nt Z Q (.exit id) k fr h = un P w0 r nt Z Q (.exit id) k fr h := (rfl)
@[go_sem] theorem ex_lab : ex P w0 r nt Z Q (.lab id) k fr h = un P w0 r nt Z Q .normal k fr h := (rfl)
@[go_sem] theorem ex_reg : ex P w0 r nt Z Q (.reg l) k fr h = rv P w0 r nt Z Q l k fr h := (rfl)
@[go_sem] theorem ex_draw0 {bef : List (List Nat)} : ex P w0 r nt Z Q (.draw [] l bef) k fr h = dr P w0 r nt Z Q l bef k fr h := (rfl)
@[go_sem] theorem ex_draw {b : Bool} {bef : List (List Nat)} : ex P w0 r nt Z Q (.draw (b :: fl) l bef) k fr h = rd' P w0 r nt Z Q (b :: fl) l k fr h := (rfl)
@[go_sem] theorem ex_seq {a b : SC} : ex P w0 r nt Z Q (.seq a b) k fr h = ex P w0 r nt Z Q a (.code b :: k) fr h := (rfl)
@[go_sem] theorem ex_cond {a b : SC} : ex P w0 r nt Z Q (.cond (.t t) a b) k fr h = exC P w0 r nt Z Q (fr.get t) t a b k fr h := (rfl)
@[go_sem] theorem ex_condt {a b : SC} : ex P w0 r nt Z Q (.cond (.k (.bool true)) a b) k fr h = ex P w0 r nt Z Q a k fr h := (rfl)
@[go_sem] theorem ex_condf {a b : SC} : ex P w0 r nt Z Q (.cond (.k (.bool false)) a b) k fr h = ex P w0 r nt Z Q b k fr h := (rfl)
@[go_sem] theorem ex_blk {a : SC} : ex P w0 r nt Z Q (.blk id a) k fr h = ex P w0 r nt Z Q a (.inBlk id :: k) fr h := (rfl)
@[go_sem] theorem ex_scope {a : SC} : ex P w0 r nt Z Q (.scope a) k fr h = ex P w0 r nt Z Q a (.inScope :: k) fr h := (rfl)
@[go_sem] theorem ex_loop {keep : List Nat} {a : SC} : ex P w0 r nt Z Q (.loop keep a) k fr h = lp P w0 r nt Z Q a k (gN fr keep) h := (rfl)
@[go_sem] theorem ex_regC {l1 l2 : List MIx} {f : Opd} {as : List Opd} : ex P w0 r nt Z Q (.regC l1 d f as l2) k fr h = rv P w0 r nt Z Q l1 (.callE d f as l2 :: k) fr h := (rfl)
@[go_sem] theorem ex_regP {l1 l2 : List MIx} {x : Opd} : ex P w0 r nt Z Q (.regP l1 d x l2) k fr h = rv P w0 r nt Z Q l1 (.panE x :: k) fr h := (rfl)
@[go_sem] theorem un_callE {f : Opd} {as : List Opd} : un P w0 r nt Z Q .normal (.callE d f as l :: k) fr h = rcE P w0 r nt Z Q (f.ev fr) (as.map (·.ev fr)) d l k fr h := (rfl)
@[go_sem] theorem ex_drawE {l1 : List MIx} {f : Opd} {as : List Opd} {bef : List (List Nat)} : ex P w0 r nt Z Q (.drawE l1 d f as bef) k fr h = rd' P w0 r nt Z Q (l1.map fun _ => false) l1 (.callQ d f as :: k) fr h := (rfl)
@[go_sem] theorem un_callQ {f : Opd} {as : List Opd} : un P w0 r nt Z Q .normal (.callQ d f as :: k) fr h = rcQ P w0 r nt Z Q (f.ev fr) (as.map (·.ev fr)) d k fr h := (rfl)
@[go_sem] theorem un_panE {x : Opd} : un P w0 r nt Z Q .normal (.panE x :: k) fr h = rcP P w0 r nt Z Q (x.ev fr) k fr h := (rfl)
section
variable {ch : List PanicEntry}
@[go_sem] theorem un_cp {c : SC} : un P w0 r nt Z Q (.panic ch) (.code c :: k) fr h = un P w0 r nt Z Q (.panic ch) k fr h := (rfl)
@[go_sem] theorem un_bp : un P w0 r nt Z Q (.panic ch) (.inBlk id :: k) fr h = un P w0 r nt Z Q (.panic ch) k fr h := (rfl)
@[go_sem] theorem un_sp : un P w0 r nt Z Q (.panic ch) (.inScope :: k) fr h = un P w0 r nt Z Q (.panic ch) k fr h := (rfl)
@[go_sem] theorem un_lp {keep : List Nat} {a : SC} : un P w0 r nt Z Q (.panic ch) (.inLoop keep a :: k) fr h = un P w0 r nt Z Q (.panic ch) k fr h := (rfl)
end
@[go_sem] theorem ex_rng {f : Opd} {ps : Array Tmp} {ca cb : Code} {ma mb : SC} : ex P w0 r nt Z Q (.rng f ps ca cb ma mb) k fr h = rg P w0 r nt Z Q f ps ca cb ma mb k fr h := (rfl)
@[go_sem] theorem un_0 {e : Exit} : un P w0 r nt Z Q e [] fr h = Q e fr h := (rfl)
@[go_sem] theorem un_cn {c : SC} : un P w0 r nt Z Q .normal (.code c :: k) fr h = ex P w0 r nt Z Q c k fr h := (rfl)
@[go_sem] theorem un_cr {c : SC} : un P w0 r nt Z Q .ret (.code c :: k) fr h = un P w0 r nt Z Q .ret k fr h := (rfl)
@[go_sem] theorem un_ce {c : SC} : un P w0 r nt Z Q (.exit id) (.code c :: k) fr h = un P w0 r nt Z Q (.exit id) k fr h := (rfl)
@[go_sem] theorem un_bn : un P w0 r nt Z Q .normal (.inBlk id :: k) fr h = un P w0 r nt Z Q .normal k fr h := (rfl)
@[go_sem] theorem un_br : un P w0 r nt Z Q .ret (.inBlk id :: k) fr h = un P w0 r nt Z Q .ret k fr h := (rfl)
@[go_sem] theorem un_be {i : Nat} : un P w0 r nt Z Q (.exit i) (.inBlk id :: k) fr h = if i = id then un P w0 r nt Z Q .normal k fr h else un P w0 r nt Z Q (.exit i) k fr h := (rfl)
@[go_sem] theorem un_sn : un P w0 r nt Z Q .normal (.inScope :: k) fr h = un P w0 r nt Z Q .normal k fr h := (rfl)
@[go_sem] theorem un_sr : un P w0 r nt Z Q .ret (.inScope :: k) fr h = un P w0 r nt Z Q .ret k fr h := (rfl)
@[go_sem] theorem un_se : un P w0 r nt Z Q (.exit id) (.inScope :: k) fr h = un P w0 r nt Z Q (.exit id) k fr h := (rfl)
@[go_sem] theorem un_ln {keep : List Nat} {a : SC} : un P w0 r nt Z Q .normal (.inLoop keep a :: k) fr h = lp P w0 r nt Z Q a k (gN fr keep) h := (rfl)
@[go_sem] theorem un_lr {keep : List Nat} {a : SC} : un P w0 r nt Z Q .ret (.inLoop keep a :: k) fr h = un P w0 r nt Z Q .ret k fr h := (rfl)
@[go_sem] theorem un_le {keep : List Nat} {a : SC} : un P w0 r nt Z Q (.exit id) (.inLoop keep a :: k) fr h = un P w0 r nt Z Q (.exit id) k fr h := (rfl)
@[go_sem] theorem rv_n : rv P w0 r nt Z Q [] k fr h = un P w0 r nt Z Q .normal k fr h := (rfl)
@[go_sem] theorem rv_o {o : MOp} : rv P w0 r nt Z Q (.op d none o :: l) k fr h = rvB P w0 r nt Z Q (aop w0 o fr h) d l k fr := (rfl)
@[go_sem] theorem rv_c {f : Opd} {as : List Opd} : rv P w0 r nt Z Q (.call d none f as :: l) k fr h = rvC P w0 r nt Z Q (f.ev fr) (as.map (·.ev fr)) d l k fr h := (rfl)
@[go_sem] theorem rv_og {b : Bool} {o : MOp} : rv P w0 r nt Z Q (.op d (some (t,b)) o :: l) k fr h = rvG P w0 r nt Z Q (fr.get t) t b (.op d none o) l k fr h := (rfl)
@[go_sem] theorem rv_cg {b : Bool} {f : Opd} {as : List Opd} : rv P w0 r nt Z Q (.call d (some (t,b)) f as :: l) k fr h = rvG P w0 r nt Z Q (fr.get t) t b (.call d none f as) l k fr h := (rfl)
theorem aCx {A B : Fr → Prop} : gv (.bool true) t true fr A B = A ((t,.bool true) :: fr) := by simp [gv]
theorem aCA {A B : Fr → Prop} : gv (.bool false) t false fr A B = A ((t,.bool false) :: fr) := by simp [gv]
theorem aCy {A B : Fr → Prop} : gv (.bool true) t false fr A B = B ((t,.bool true) :: fr) := by simp [gv]
theorem aCz {A B : Fr → Prop} : gv (.bool false) t true fr A B = B ((t,.bool false) :: fr) := by simp [gv]
def MIx.run (P : Program) (w0 : World) (r : Option Nat) (nt Z : Nat) (Q : Exit → Fr → Heap → Prop) (x : MIx) (l : List MIx) (k : List It) (fr : Fr) (h : Heap) : Prop := rv P w0 r nt Z Q (x :: l) k fr h
theorem xN {v : AV} {b : Bool} {o : MOp} : rvG P w0 r nt Z Q v t b (.op d none o) l k fr h = gv v t b fr (fun fr => rv P w0 r nt Z Q (.op d none o :: l) k fr h) (fun fr => rv P w0 r nt Z Q l k (fr.put d (.tup [])) h) := (rfl)
theorem pM {v : AV} {b : Bool} {f : Opd} {as : List Opd} : rvG P w0 r nt Z Q v t b (.call d none f as) l k fr h = gv v t b fr (fun fr => rv P w0 r nt Z Q (.call d none f as :: l) k fr h) (fun fr => rv P w0 r nt Z Q l k (fr.put d (.tup [])) h) := (rfl)
section
variable {o : MOp}
@[go_sem high] theorem rvG_ott : rvG P w0 r nt Z Q (.bool true) t true (.op d none o) l k fr h = rv P w0 r nt Z Q (.op d none o :: l) k ((t,.bool true) :: fr) h := by rw [xN,aCx]
@[go_sem high] theorem rvG_off : rvG P w0 r nt Z Q (.bool false) t false (.op d none o) l k fr h = rv P w0 r nt Z Q (.op d none o :: l) k ((t,.bool false) :: fr) h := by rw [xN,aCA]
@[go_sem high] theorem rvG_otf : rvG P w0 r nt Z Q (.bool true) t false (.op d none o) l k fr h = rv P w0 r nt Z Q l k (Fr.put ((t,.bool true) :: fr) d (.tup [])) h := by rw [xN,aCy]
@[go_sem high] theorem rvG_oft : rvG P w0 r nt Z Q (.bool false) t true (.op d none o) l k fr h = rv P w0 r nt Z Q l k (Fr.put ((t,.bool false) :: fr) d (.tup [])) h := by rw [xN,aCz]
@[go_sem] theorem rvG_ou {b : Bool} : rvG P w0 r nt Z Q (.tup []) t b (.op d none o) l k fr h = rv P w0 r nt Z Q l k (Fr.put fr d (.tup [])) h := (rfl)
@[go_sem] theorem rvG_ot {c : Bool} : rvG P w0 r nt Z Q (.bool c) t true (.op d none o) l k fr h =
 ((c = true → rv P w0 r nt Z Q (.op d none o :: l) k ((t,.bool true) :: fr) h) ∧ (c = false → rv P w0 r nt Z Q l k (Fr.put ((t,.bool false) :: fr) d (.tup [])) h)) := (rfl)
@[go_sem] theorem rvG_of {c : Bool} : rvG P w0 r nt Z Q (.bool c) t false (.op d none o) l k fr h =
 ((c = false → rv P w0 r nt Z Q (.op d none o :: l) k ((t,.bool false) :: fr) h) ∧ (c = true → rv P w0 r nt Z Q l k (Fr.put ((t,.bool true) :: fr) d (.tup [])) h)) := (rfl)
variable {f : Opd} {as : List Opd}
@[go_sem high] theorem rvG_ctt : rvG P w0 r nt Z Q (.bool true) t true (.call d none f as) l k fr h = rv P w0 r nt Z Q (.call d none f as :: l) k ((t,.bool true) :: fr) h := by rw [pM,aCx]
@[go_sem high] theorem rvG_cff : rvG P w0 r nt Z Q (.bool false) t false (.call d none f as) l k fr h = rv P w0 r nt Z Q (.call d none f as :: l) k ((t,.bool false) :: fr) h := by rw [pM,aCA]
@[go_sem high] theorem rvG_ctf : rvG P w0 r nt Z Q (.bool true) t false (.call d none f as) l k fr h = rv P w0 r nt Z Q l k (Fr.put ((t,.bool true) :: fr) d (.tup [])) h := by rw [pM,aCy]
@[go_sem high] theorem rvG_cft : rvG P w0 r nt Z Q (.bool false) t true (.call d none f as) l k fr h = rv P w0 r nt Z Q l k (Fr.put ((t,.bool false) :: fr) d (.tup [])) h := by rw [pM,aCz]
@[go_sem] theorem rvG_cu {b : Bool} : rvG P w0 r nt Z Q (.tup []) t b (.call d none f as) l k fr h = rv P w0 r nt Z Q l k (Fr.put fr d (.tup [])) h := (rfl)
@[go_sem] theorem rvG_ct {c : Bool} : rvG P w0 r nt Z Q (.bool c) t true (.call d none f as) l k fr h =
 ((c = true → rv P w0 r nt Z Q (.call d none f as :: l) k ((t,.bool true) :: fr) h) ∧ (c = false → rv P w0 r nt Z Q l k (Fr.put ((t,.bool false) :: fr) d (.tup [])) h)) := (rfl)
@[go_sem] theorem rvG_cf {c : Bool} : rvG P w0 r nt Z Q (.bool c) t false (.call d none f as) l k fr h =
 ((c = false → rv P w0 r nt Z Q (.call d none f as :: l) k ((t,.bool false) :: fr) h) ∧ (c = true → rv P w0 r nt Z Q l k (Fr.put ((t,.bool true) :: fr) d (.tup [])) h)) := (rfl)
end
@[go_sem] theorem rd_n : rd' P w0 r nt Z Q fl [] k fr h = un P w0 r nt Z Q .normal k fr h := by
 cases fl with
 | nil => rfl
 | cons b fl => cases b <;> rfl
@[go_sem] theorem rd_o {p : Bool} {o : MOp} : rd' P w0 r nt Z Q (p :: fl) (.op d none o :: l) k fr h = rdB P w0 r nt Z Q p (aop w0 o fr h) d fl l k fr h := by cases p <;> rfl
@[go_sem] theorem rd_c {p : Bool} {f : Opd} {as : List Opd} : rd' P w0 r nt Z Q (p :: fl) (.call d none f as :: l) k fr h = rdC P w0 r nt Z Q p (f.ev fr) (as.map (·.ev fr)) d fl l k fr h := by cases p <;> rfl
@[go_sem] theorem rd_og {p b : Bool} {o : MOp} : rd' P w0 r nt Z Q (p :: fl) (.op d (some (t,b)) o :: l) k fr h = rdG P w0 r nt Z Q (fr.get t) t b p (.op d none o) fl l k fr h := by cases p <;> rfl
@[go_sem] theorem rd_cg {p b : Bool} {f : Opd} {as : List Opd} : rd' P w0 r nt Z Q (p :: fl) (.call d (some (t,b)) f as :: l) k fr h = rdG P w0 r nt Z Q (fr.get t) t b p (.call d none f as) fl l k fr h := by cases p <;> rfl
theorem oL {v : AV} {p b : Bool} {o : MOp} : rdG P w0 r nt Z Q v t b p (.op d none o) fl l k fr h = gv v t b fr (fun fr => rd' P w0 r nt Z Q (p :: fl) (.op d none o :: l) k fr h) (fun fr => rd' P w0 r nt Z Q fl l k (fr.put d (.tup [])) h) := by cases p <;> rfl
theorem jQ {v : AV} {p b : Bool} {f : Opd} {as : List Opd} : rdG P w0 r nt Z Q v t b p (.call d none f as) fl l k fr h = gv v t b fr (fun fr => rd' P w0 r nt Z Q (p :: fl) (.call d none f as :: l) k fr h) (fun fr => rd' P w0 r nt Z Q fl l k (fr.put d (.tup [])) h) := by cases p <;> rfl
section
variable {p : Bool} {o : MOp}
@[go_sem high] theorem rdG_ott : rdG P w0 r nt Z Q (.bool true) t true p (.op d none o) fl l k fr h = rd' P w0 r nt Z Q (p :: fl) (.op d none o :: l) k ((t,.bool true) :: fr) h := by rw [oL,aCx]
@[go_sem high] theorem rdG_off : rdG P w0 r nt Z Q (.bool false) t false p (.op d none o) fl l k fr h = rd' P w0 r nt Z Q (p :: fl) (.op d none o :: l) k ((t,.bool false) :: fr) h := by rw [oL,aCA]
@[go_sem high] theorem rdG_otf : rdG P w0 r nt Z Q (.bool true) t false p (.op d none o) fl l k fr h = rd' P w0 r nt Z Q fl l k (Fr.put ((t,.bool true) :: fr) d (.tup [])) h := by rw [oL,aCy]
@[go_sem high] theorem rdG_oft : rdG P w0 r nt Z Q (.bool false) t true p (.op d none o) fl l k fr h = rd' P w0 r nt Z Q fl l k (Fr.put ((t,.bool false) :: fr) d (.tup [])) h := by rw [oL,aCz]
@[go_sem] theorem rdG_ou {b : Bool} : rdG P w0 r nt Z Q (.tup []) t b p (.op d none o) fl l k fr h = rd' P w0 r nt Z Q fl l k (Fr.put fr d (.tup [])) h := by rw [oL]; rfl
@[go_sem] theorem rdG_ot {c : Bool} : rdG P w0 r nt Z Q (.bool c) t true p (.op d none o) fl l k fr h =
 ((c = true → rd' P w0 r nt Z Q (p :: fl) (.op d none o :: l) k ((t,.bool true) :: fr) h) ∧ (c = false → rd' P w0 r nt Z Q fl l k (Fr.put ((t,.bool false) :: fr) d (.tup [])) h)) := by rw [oL]; rfl
@[go_sem] theorem rdG_of {c : Bool} : rdG P w0 r nt Z Q (.bool c) t false p (.op d none o) fl l k fr h =
 ((c = false → rd' P w0 r nt Z Q (p :: fl) (.op d none o :: l) k ((t,.bool false) :: fr) h) ∧ (c = true → rd' P w0 r nt Z Q fl l k (Fr.put ((t,.bool true) :: fr) d (.tup [])) h)) := by rw [oL]; rfl
variable {f : Opd} {as : List Opd}
@[go_sem high] theorem rdG_ctt : rdG P w0 r nt Z Q (.bool true) t true p (.call d none f as) fl l k fr h = rd' P w0 r nt Z Q (p :: fl) (.call d none f as :: l) k ((t,.bool true) :: fr) h := by rw [jQ,aCx]
@[go_sem high] theorem rdG_cff : rdG P w0 r nt Z Q (.bool false) t false p (.call d none f as) fl l k fr h = rd' P w0 r nt Z Q (p :: fl) (.call d none f as :: l) k ((t,.bool false) :: fr) h := by rw [jQ,aCA]
@[go_sem high] theorem rdG_ctf : rdG P w0 r nt Z Q (.bool true) t false p (.call d none f as) fl l k fr h = rd' P w0 r nt Z Q fl l k (Fr.put ((t,.bool true) :: fr) d (.tup [])) h := by rw [jQ,aCy]
@[go_sem high] theorem rdG_cft : rdG P w0 r nt Z Q (.bool false) t true p (.call d none f as) fl l k fr h = rd' P w0 r nt Z Q fl l k (Fr.put ((t,.bool false) :: fr) d (.tup [])) h := by rw [jQ,aCz]
@[go_sem] theorem rdG_cu {b : Bool} : rdG P w0 r nt Z Q (.tup []) t b p (.call d none f as) fl l k fr h = rd' P w0 r nt Z Q fl l k (Fr.put fr d (.tup [])) h := by rw [jQ]; rfl
@[go_sem] theorem rdG_ct {c : Bool} : rdG P w0 r nt Z Q (.bool c) t true p (.call d none f as) fl l k fr h =
 ((c = true → rd' P w0 r nt Z Q (p :: fl) (.call d none f as :: l) k ((t,.bool true) :: fr) h) ∧ (c = false → rd' P w0 r nt Z Q fl l k (Fr.put ((t,.bool false) :: fr) d (.tup [])) h)) := by rw [jQ]; rfl
@[go_sem] theorem rdG_cf {c : Bool} : rdG P w0 r nt Z Q (.bool c) t false p (.call d none f as) fl l k fr h =
 ((c = false → rd' P w0 r nt Z Q (p :: fl) (.call d none f as :: l) k ((t,.bool false) :: fr) h) ∧ (c = true → rd' P w0 r nt Z Q fl l k (Fr.put ((t,.bool true) :: fr) d (.tup [])) h)) := by rw [jQ]; rfl
end
theorem cv_t {A B : Fr → Prop} : cv (.bool true) t fr A B = A ((t,.bool true) :: fr) := by simp [cv]
theorem cv_f {A B : Fr → Prop} : cv (.bool false) t fr A B = B ((t,.bool false) :: fr) := by simp [cv]
@[go_sem high] theorem exC_t {a b : SC} : exC P w0 r nt Z Q (.bool true) t a b k fr h = ex P w0 r nt Z Q a k ((t,.bool true) :: fr) h := by rw [exC,cv_t]
@[go_sem high] theorem exC_f {a b : SC} : exC P w0 r nt Z Q (.bool false) t a b k fr h = ex P w0 r nt Z Q b k ((t,.bool false) :: fr) h := by rw [exC,cv_f]
@[go_sem] theorem exC_b {c : Bool} {a b : SC} : exC P w0 r nt Z Q (.bool c) t a b k fr h = ((c = true → ex P w0 r nt Z Q a k ((t,.bool true) :: fr) h) ∧ (c = false → ex P w0 r nt Z Q b k ((t,.bool false) :: fr) h)) := (rfl)
theorem aJ {f : AV} {as : List AV} {v : AV} {h1 : Heap} (c : aP P w0 f as h v h1) (e : rv P w0 r nt Z Q l k (fr.put d v) h1) : rvC P w0 r nt Z Q f as d l k fr h :=
 aS.mono c fun _ _ ⟨e1,e2⟩ => by subst e1; subst e2; exact e
theorem aHv {f : AV} {as : List AV} {v : AV} (c : aP P w0 f as h v h) (e : rd' P w0 r nt Z Q fl l k (fr.put d v) h) : rdC P w0 r nt Z Q false f as d fl l k fr h := ⟨v,c,e⟩
theorem tU {f : AV} {as : List AV} {v : AV} {h1 : Heap} (c : aP P w0 f as h v h1) (hl : h.length ≤ h1.length) (e : rd' P w0 r nt Z Q fl l k (fr.put d v) h1) : rdC P w0 r nt Z Q true f as d fl l k fr h := ⟨v,h1,c,hl,e⟩
theorem aW {f : AV} {as : List AV} {K : AV → Heap → Prop} (c : aS P w0 f as h K) (e : ∀ v h1,K v h1 → rv P w0 r nt Z Q l k (fr.put d v) h1) : rvC P w0 r nt Z Q f as d l k fr h :=
 aS.mono c e
end machine
@[go_sem] theorem xkeep_nil : gN fr [] = [] := (rfl)
@[go_sem] theorem aJ2 {t : Nat} {ts : List Nat} : gN fr (t :: ts) = (t,fr.get t) :: gN fr ts := (rfl)
@[go_sem] theorem put_s {d : Nat} {v : AV} : Fr.put fr (some d) v = (d,v) :: fr := (rfl)
@[go_sem] theorem put_n {v : AV} : Fr.put fr none v = fr := (rfl)
@[go_sem] theorem get_n {t : Nat} : Fr.get [] t = .undef := (rfl)
@[go_sem] theorem get_c {k t : Nat} {v : AV} {rest : Fr} : Fr.get ((k,v) :: rest) t = if t = k then v else Fr.get rest t := by
 simp only [Fr.get]
 by_cases e : t = k
 · subst e; simp
 · rw [if_neg e]
   have : Nat.beq t k = false := by
    cases hb : Nat.beq t k with
    | false => rfl
    | true => exact absurd (bD.1 hb) e
   rw [this]; rfl
@[go_sem] theorem ev_t {t : Nat} : Opd.ev fr (.t t) = fr.get t := (rfl)
@[go_sem] theorem ev_k {v : AV} : Opd.ev fr (.k v) = v := (rfl)
@[go_sem] theorem initFr_n {n : Nat} : eO [] n = [] := (rfl)
@[go_sem] theorem initFr_c {x : AV} {xs : List AV} {n : Nat} : eO (x :: xs) n = (n,x) :: eO xs (n + 1) := (rfl)
def I64 (n : Int) : Prop := -9223372036854775808 ≤ n ∧ n ≤ 9223372036854775807
def onV (o : Option AV) (h : Heap) : Option (AV × Heap) := o.map fun v => (v,h)
@[go_sem] theorem onV_s {v : AV} : onV (some v) h = some (v,h) := (rfl)
@[go_sem] theorem onV_n : onV none h = none := (rfl)
theorem aCw {n : Int} : inK .i64 n = true ↔ I64 n := by
 simp [inK,I64,IntKind.min,IntKind.max,IntKind.bits,IntKind.signed]
theorem nG {n : Int} {K : AV → Heap → Prop} : fQ (onV (fR .i64 n) h) K = (I64 n ∧ K (.int .i64 n) h) := by
 unfold fR
 by_cases hk : inK .i64 n = true
 · rw [if_pos hk]; simp [onV,fQ,aCw.1 hk]
 · rw [if_neg hk]; simp only [onV,Option.map_none,fQ,false_iff,eq_iff_iff]; exact fun x => hk (aCw.2 x.1)
theorem rP {c : Prop} [Decidable c] {v : AV} {h' : Heap} {K : AV → Heap → Prop} : fQ (if c then some (v,h') else none) K = (c ∧ K v h') := by
 by_cases hc : c
 · rw [if_pos hc]; simp [fQ,hc]
 · rw [if_neg hc]; simp [fQ,hc]
theorem lC {c : Prop} [Decidable c] {v : AV} {K : AV → Heap → Prop} : fQ (onV (if c then some v else none) h) K = (c ∧ K v h) := by
 by_cases hc : c
 · rw [if_pos hc]; simp [fQ,hc,onV]
 · rw [if_neg hc]; simp [fQ,hc,onV]
section
variable {k : List It} {l : List MIx} {fl : List Bool} {d : Option Nat} {v : AV} {h' : Heap} {p : Bool}
@[go_sem] theorem rvB_s : rvB P w0 r nt Z Q (some (v,h')) d l k fr = rv P w0 r nt Z Q l k (fr.put d v) h' := (rfl)
@[go_sem] theorem rvB_a {n : Int} : rvB P w0 r nt Z Q (onV (fR .i64 n) h') d l k fr = (I64 n ∧ rv P w0 r nt Z Q l k (fr.put d (.int .i64 n)) h') := nG
@[go_sem] theorem rvB_i {c : Prop} [Decidable c] : rvB P w0 r nt Z Q (if c then some (v,h') else none) d l k fr = (c ∧ rv P w0 r nt Z Q l k (fr.put d v) h') := rP
@[go_sem] theorem rvB_o {c : Prop} [Decidable c] : rvB P w0 r nt Z Q (onV (if c then some v else none) h') d l k fr = (c ∧ rv P w0 r nt Z Q l k (fr.put d v) h') := lC
@[go_sem] theorem rdB_st : rdB P w0 r nt Z Q true (some (v,h')) d fl l k fr h = rd' P w0 r nt Z Q fl l k (fr.put d v) h' := (rfl)
@[go_sem] theorem rdB_at {n : Int} : rdB P w0 r nt Z Q true (onV (fR .i64 n) h') d fl l k fr h = (I64 n ∧ rd' P w0 r nt Z Q fl l k (fr.put d (.int .i64 n)) h') := nG
@[go_sem] theorem rdB_it {c : Prop} [Decidable c] : rdB P w0 r nt Z Q true (if c then some (v,h') else none) d fl l k fr h = (c ∧ rd' P w0 r nt Z Q fl l k (fr.put d v) h') := rP
@[go_sem] theorem rdB_ot {c : Prop} [Decidable c] : rdB P w0 r nt Z Q true (onV (if c then some v else none) h') d fl l k fr h = (c ∧ rd' P w0 r nt Z Q fl l k (fr.put d v) h') := lC
@[go_sem] theorem rdB_sf : rdB P w0 r nt Z Q false (some (v,h')) d fl l k fr h = rd' P w0 r nt Z Q fl l k (fr.put d v) h := (rfl)
@[go_sem] theorem rdB_af {n : Int} : rdB P w0 r nt Z Q false (onV (fR .i64 n) h') d fl l k fr h = (I64 n ∧ rd' P w0 r nt Z Q fl l k (fr.put d (.int .i64 n)) h) := nG
@[go_sem] theorem rdB_if {c : Prop} [Decidable c] : rdB P w0 r nt Z Q false (if c then some (v,h') else none) d fl l k fr h = (c ∧ rd' P w0 r nt Z Q fl l k (fr.put d v) h) := rP
@[go_sem] theorem rdB_of {c : Prop} [Decidable c] : rdB P w0 r nt Z Q false (onV (if c then some v else none) h') d fl l k fr h = (c ∧ rd' P w0 r nt Z Q fl l k (fr.put d v) h) := lC
end
theorem hE {o : Option AV} : (o.bind fun v => some (v,h)) = onV o h := by cases o <;> rfl
@[go_sem] theorem aop_mov {x : Opd} : aop w0 (.mov x) fr h = some (x.ev fr,h) := (rfl)
def aCg (c a b : AV) : Option AV := match c with
 | .bool t => some (if t then a else b)
 | _ => none
@[go_sem] theorem pickV_t {a b : AV} : aCg (.bool true) a b = some a := (rfl)
@[go_sem] theorem pickV_f {a b : AV} : aCg (.bool false) a b = some b := (rfl)
@[go_sem] theorem aop_pick {c a b : Opd} : aop w0 (.pick c a b) fr h = onV (aCg (c.ev fr) (a.ev fr) (b.ev fr)) h := by
 simp only [aop,aCg]; generalize Opd.ev fr c = v; cases v <;> rfl
@[go_sem] theorem cellsOf_i {k : IntKind} {n : Int} : cellsOf (.int k n) = some [.int k n] := (rfl)
@[go_sem] theorem cellsOf_b {b : Bool} : cellsOf (.bool b) = some [.bool b] := (rfl)
@[go_sem] theorem cellsOf_p {p : Pl} : cellsOf (.ptr p) = some [.ptr p] := (rfl)
@[go_sem] theorem aJ4 : cellsOf .nilP = some [.nilP] := (rfl)
@[go_sem] theorem cellsOf_s {p : Pl} {n es : Nat} {f : Bool} : cellsOf (.sl p n es f) = some [.sl p n es f] := (rfl)
@[go_sem] theorem aJ3 : cellsOf .nilS = some [.nilS] := (rfl)
@[go_sem] theorem cellsOf_m {i : Nat} : cellsOf (.map i) = some [.map i] := (rfl)
@[go_sem] theorem aJ5 : cellsOf .nilM = some [.nilM] := (rfl)
@[go_sem] theorem cellsOf_f {f : Fn} {a b : List AV} : cellsOf (.fn f a b) = some [.fn f a b] := (rfl)
@[go_sem] theorem cellsOf_y {i : Nat} : cellsOf (.yld i) = some [.yld i] := (rfl)
@[go_sem] theorem aJ6 : cellsOf .nilF = some [.nilF] := (rfl)
@[go_sem] theorem cellsOf_a {l : List AV} : cellsOf (.agg l) = if l.all one = true then some l else none := (rfl)
@[go_sem] theorem one_i {k : IntKind} {n : Int} : one (.int k n) = true := (rfl)
@[go_sem] theorem one_b {b : Bool} : one (.bool b) = true := (rfl)
@[go_sem] theorem one_p {p : Pl} : one (.ptr p) = true := (rfl)
@[go_sem] theorem one_np : one .nilP = true := (rfl)
@[go_sem] theorem one_s {p : Pl} {n es : Nat} {f : Bool} : one (.sl p n es f) = true := (rfl)
@[go_sem] theorem one_ns : one .nilS = true := (rfl)
@[go_sem] theorem one_m {i : Nat} : one (.map i) = true := (rfl)
@[go_sem] theorem one_nm : one .nilM = true := (rfl)
@[go_sem] theorem one_f {f : Fn} {a b : List AV} : one (.fn f a b) = true := (rfl)
@[go_sem] theorem one_y {i : Nat} : one (.yld i) = true := (rfl)
@[go_sem] theorem one_nf : one .nilF = true := (rfl)
def boxV (c : Option (List AV)) (n : Nat) (h : Heap) : Option (AV × Heap) := match c with
 | some l => if l.length = n then some (.ptr (.own h.length 0),h ++ [some (.row l)]) else none
 | none => none
@[go_sem] theorem boxV_s {l : List AV} {n : Nat} : boxV (some l) n h = if l.length = n then some (.ptr (.own h.length 0),h ++ [some (.row l)]) else none := (rfl)
@[go_sem] theorem aop_box {x : Opd} {n : Nat} : aop w0 (.box x n) fr h = boxV (cellsOf (x.ev fr)) n h := (rfl)
@[go_sem] theorem aop_alloc {z : List AV} : aop w0 (.alloc z) fr h = some (.ptr (.own h.length 0),h ++ [some (.row z)]) := (rfl)
def aggV (o : Option (List AV)) (h : Heap) : Option (AV × Heap) := match o with
 | some c => some (.agg c,h)
 | none => none
@[go_sem] theorem aggV_s {l : List AV} : aggV (some l) h = some (.agg l,h) := (rfl)
def parts (fr : Fr) : List (Nat × Nat × Opd) → List (Nat × Nat × AV)
 | [] => []
 | p :: ps => (p.1,p.2.1,p.2.2.ev fr) :: parts fr ps
theorem zX {l : List (Nat × Nat × Opd)} : (l.map fun (o,n,x) => (o,n,x.ev fr)) = parts fr l := by
 induction l with
 | nil => rfl
 | cons p ps ih => simp only [List.map_cons,parts,ih]
@[go_sem] theorem parts_n : parts fr [] = [] := (rfl)
@[go_sem] theorem parts_c {o n : Nat} {x : Opd} {ps : List (Nat × Nat × Opd)} : parts fr ((o,n,x) :: ps) = (o,n,x.ev fr) :: parts fr ps := (rfl)
@[go_sem] theorem fillA_n {c : List AV} : iL c [] = some c := (rfl)
def fill1 (c : List AV) (o n : Nat) (v : Option (List AV)) (r : List (Nat × Nat × AV)) : Option (List AV) := match v with
 | some l => if l.length = n ∧ o + n ≤ c.length then iL (cG c o l) r else none
 | none => none
@[go_sem] theorem fill1_s {c l : List AV} {o n : Nat} {r : List (Nat × Nat × AV)} : fill1 c o n (some l) r = if l.length = n ∧ o + n ≤ c.length then iL (cG c o l) r else none := (rfl)
@[go_sem] theorem fillA_c {c : List AV} {o n : Nat} {v : AV} {r : List (Nat × Nat × AV)} : iL c ((o,n,v) :: r) = fill1 c o n (cellsOf v) r := (rfl)
@[go_sem] theorem splice_eq {c l : List AV} {o : Nat} : cG c o l = c.take o ++ (l ++ c.drop (o + l.length)) := by simp [cG]
@[go_sem] theorem aop_build {z : List AV} {ps : List (Nat × Nat × Opd)} : aop w0 (.build z ps) fr h = aggV (iL z (parts fr ps)) h := by
 simp only [aop,zX,aggV]; cases iL z (parts fr ps) <;> rfl
def slV (o : Option (List AV)) (len es : Nat) (full : Bool) (h : Heap) : Option (AV × Heap) := match o with
 | some c => some (.sl (.own h.length 0) len es full,h ++ [some (.row c)])
 | none => none
@[go_sem] theorem slV_s {c : List AV} {len es : Nat} {full : Bool} : slV (some c) len es full h = some (.sl (.own h.length 0) len es full,h ++ [some (.row c)]) := (rfl)
@[go_sem] theorem aJ8 {es : Nat} {z : List AV} {len : Nat} {ps : List (Nat × Nat × Opd)} : aop w0 (.bslice es z len ps) fr h = slV (iL (fH z len) (parts fr ps)) len es true h := by
 simp only [aop,zX,slV,jR]; cases iL (fH z len) (parts fr ps) <;> rfl
@[go_sem] theorem reps_0 {z : List AV} : fH z 0 = [] := (rfl)
@[go_sem] theorem aBr {z : List AV} {n : Nat} : fH z (n + 1) = z ++ fH z n := (rfl)
def aCr (w0 : World) (h : Heap) (v : AV) (n : Option Nat) : Option AV := match v with
 | .ptr p => rdv w0 h p n
 | _ => none
@[go_sem] theorem loadV_p {p : Pl} {n : Option Nat} : aCr w0 h (.ptr p) n = rdv w0 h p n := (rfl)
@[go_sem] theorem aop_load {x : Opd} {n : Option Nat} : aop w0 (.load x n) fr h = onV (aCr w0 h (x.ev fr) n) h := by
 simp only [aop,aCr]; generalize Opd.ev fr x = v; cases v <;> simp only [hE] <;> rfl
@[go_sem] theorem rdv_n {p : Pl} : rdv w0 h p none = rd w0 h p := (rfl)
def aggO (o : Option (List AV)) : Option AV := o.map .agg
@[go_sem] theorem aggO_s {l : List AV} : aggO (some l) = some (.agg l) := (rfl)
@[go_sem] theorem rdv_s {p : Pl} {n : Nat} : rdv w0 h p (some n) = aggO (rdn w0 h p n) := (rfl)
def yP (b : Option (Option Blk)) (o : Nat) : Option AV := match b with
 | some (some (.row c)) => c[o]?
 | _ => none
@[go_sem] theorem cellAt_r {c : List AV} {o : Nat} : yP (some (some (.row c))) o = c[o]? := (rfl)
@[go_sem] theorem rd_own {i o : Nat} : rd w0 h (.own i o) = yP (h[i]?) o := (rfl)
def aCG (b : Option (Option Blk)) (o n : Nat) : Option (List AV) := match b with
 | some (some (.row c)) => if o + n ≤ c.length then some ((c.drop o).take n) else none
 | _ => none
@[go_sem] theorem cellsAt_r {c : List AV} {o n : Nat} : aCG (some (some (.row c))) o n = if o + n ≤ c.length then some ((c.drop o).take n) else none := (rfl)
@[go_sem] theorem rdn_own {i o n : Nat} : rdn w0 h (.own i o) n = aCG (h[i]?) o n := (rfl)
def aBh (v : AV) (c : Option (List AV)) (n : Nat) (h : Heap) : Option (AV × Heap) := match v,c with
 | .ptr (.own i o),some l => match h[i]? with
  | some (some (.row c)) => if l.length = n ∧ o + n ≤ c.length then some (.undef,h.set i (some (.row (cG c o l)))) else none
  | _ => none
 | _,_ => none
def aEt (b : Option (Option Blk)) (i o : Nat) (l : List AV) (n : Nat) (h : Heap) : Option (AV × Heap) := match b with
 | some (some (.row c)) => if l.length = n ∧ o + n ≤ c.length then some (.undef,h.set i (some (.row (cG c o l)))) else none
 | _ => none
@[go_sem] theorem storeV_s {i o : Nat} {l : List AV} {n : Nat} : aBh (.ptr (.own i o)) (some l) n h = aEt (h[i]?) i o l n h := (rfl)
@[go_sem] theorem storeB_r {i o : Nat} {c l : List AV} {n : Nat} : aEt (some (some (.row c))) i o l n h = if l.length = n ∧ o + n ≤ c.length then some (.undef,h.set i (some (.row (cG c o l)))) else none := (rfl)
@[go_sem] theorem aop_store {x v : Opd} {n : Nat} : aop w0 (.store x v n) fr h = aBh (x.ev fr) (cellsOf (v.ev fr)) n h := by
 simp only [aop,aBh]
 generalize Opd.ev fr x = a
 generalize cellsOf (Opd.ev fr v) = b
 cases a <;> try rfl
 all_goals
  rename_i p
  cases p <;> cases b <;> rfl
@[go_sem] theorem aop_nilck {x : Opd} : aop w0 (.nilck x) fr h = (match aCu (x.ev fr) with
 | some false => match x.ev fr with
  | .ptr p => some (.ptr p,h)
  | .fn (.func f) a b => some (.fn (.func f) a b,h)
  | _ => none
 | _ => none) := (rfl)
@[go_sem] theorem isNil_p {p : Pl} : aCu (.ptr p) = some false := (rfl)
@[go_sem] theorem isNil_f {f : Fn} {a b : List AV} : aCu (.fn f a b) = some false := (rfl)
@[go_sem] theorem aop_bin {op : BinOp} {x y : Opd} : aop w0 (.bin op x y) fr h = onV (bin op (x.ev fr) (y.ev fr)) h := by
 simp only [aop,hE]
@[go_sem] theorem bin_add {a b : Int} : bin .add (.int .i64 a) (.int .i64 b) = fR .i64 (a + b) := by simp [bin,iY]
@[go_sem] theorem bin_sub {a b : Int} : bin .sub (.int .i64 a) (.int .i64 b) = fR .i64 (a - b) := by simp [bin,iY]
@[go_sem] theorem bin_mul {a b : Int} : bin .mul (.int .i64 a) (.int .i64 b) = fR .i64 (a * b) := by simp [bin,iY]
@[go_sem] theorem bin_quo {a b : Int} : bin .quo (.int .i64 a) (.int .i64 b) = if b = 0 then none else fR .i64 (a.tdiv b) := by simp [bin,iY]
@[go_sem] theorem bin_rem {a b : Int} : bin .rem (.int .i64 a) (.int .i64 b) = if b = 0 then none else some (.int .i64 (a.tmod b)) := by simp [bin,iY]
@[go_sem] theorem bin_eql {k : IntKind} {a b : Int} : bin .eql (.int k a) (.int k b) = some (.bool (a == b)) := by simp [bin,iY]
@[go_sem] theorem bin_neq {k : IntKind} {a b : Int} : bin .neq (.int k a) (.int k b) = some (.bool (a != b)) := by simp [bin,iY]
@[go_sem] theorem bin_lss {k : IntKind} {a b : Int} : bin .lss (.int k a) (.int k b) = some (.bool (decide (a < b))) := by simp [bin,iY]
@[go_sem] theorem bin_leq {k : IntKind} {a b : Int} : bin .leq (.int k a) (.int k b) = some (.bool (decide (a ≤ b))) := by simp [bin,iY]
@[go_sem] theorem bin_gtr {k : IntKind} {a b : Int} : bin .gtr (.int k a) (.int k b) = some (.bool (decide (b < a))) := by simp [bin,iY]
@[go_sem] theorem bin_geq {k : IntKind} {a b : Int} : bin .geq (.int k a) (.int k b) = some (.bool (decide (b ≤ a))) := by simp [bin,iY]
def eqbV (neq : Bool) (x y : AV) : Option AV := match x,y with
 | .bool a,.bool b => some (.bool (if neq then !(a == b) else a == b))
 | _,_ => none
@[go_sem] theorem eqbV_n {a b : Bool} : eqbV true (.bool a) (.bool b) = some (.bool !(a == b)) := (rfl)
@[go_sem] theorem eqbV_e {a b : Bool} : eqbV false (.bool a) (.bool b) = some (.bool (a == b)) := (rfl)
@[go_sem] theorem aop_eqb {neq : Bool} {x y : Opd} : aop w0 (.eqb neq x y) fr h = onV (eqbV neq (x.ev fr) (y.ev fr)) h := by
 simp only [aop,eqbV]
 generalize Opd.ev fr x = a
 generalize Opd.ev fr y = b
 cases a <;> try rfl
 cases b <;> rfl
def aDV (sl neq : Bool) (x : AV) : Option AV := (mT sl x).map fun r => .bool (if neq then !r else r)
@[go_sem] theorem eqnV_1 {neq : Bool} : aDV true neq .nilS = some (.bool (!neq)) := by cases neq <;> rfl
@[go_sem] theorem eqnV_2 {neq : Bool} {p : Pl} {n es : Nat} {f : Bool} : aDV true neq (.sl p n es f) = some (.bool neq) := by cases neq <;> rfl
@[go_sem] theorem eqnV_3 {neq : Bool} : aDV false neq .nilF = some (.bool (!neq)) := by cases neq <;> rfl
@[go_sem] theorem eqnV_4 {neq : Bool} {f : Fn} {a b : List AV} : aDV false neq (.fn f a b) = some (.bool neq) := by cases neq <;> rfl
@[go_sem] theorem aop_eqnil {sl neq : Bool} {x : Opd} : aop w0 (.eqnil sl neq x) fr h = onV (aDV sl neq (x.ev fr)) h := by
 simp only [aop,aDV]
 cases mT sl (x.ev fr) <;> rfl
def aDW (s : List Bool) (neq : Bool) (x y : AV) : Option AV := match x,y with
 | .agg a,.agg b => (eS s a b).map fun r => .bool (if neq then !r else r)
 | _,_ => none
@[go_sem] theorem aop_eqag {s : List Bool} {neq : Bool} {x y : Opd} : aop w0 (.eqag s neq x y) fr h = onV (aDW s neq (x.ev fr) (y.ev fr)) h := by
 simp only [aop,aDW]
 generalize Opd.ev fr x = a
 generalize Opd.ev fr y = b
 cases a <;> try rfl
 cases b <;> try rfl
 rename_i l k
 cases hc : eS s l k <;> simp [hc,onV]
@[go_sem] theorem aop_un {op : UnOp} {x : Opd} : aop w0 (.un op x) fr h = onV (aDk op (x.ev fr)) h := by simp only [aop,hE]
@[go_sem] theorem unop_not {b : Bool} : aDk .not (.bool b) = some (.bool !b) := (rfl)
@[go_sem] theorem unop_neg {n : Int} : aDk .neg (.int .i64 n) = fR .i64 (0 - n) := (rfl)
def aGc (k : IntKind) (x : AV) : Option AV := match x with
 | .int _ n => fR k n
 | _ => none
@[go_sem] theorem convV_i {k k' : IntKind} {n : Int} : aGc k (.int k' n) = fR k n := (rfl)
@[go_sem] theorem aop_conv {k : IntKind} {x : Opd} : aop w0 (.conv k x) fr h = onV (aGc k (x.ev fr)) h := by
 simp only [aop,aGc]; generalize Opd.ev fr x = v; cases v <;> simp only [hE] <;> rfl
def eqiV (neq : Bool) (x : AV) : Option AV := (uH x).map fun r => .bool (if neq then !r else r)
@[go_sem] theorem eqiV_1 {neq : Bool} : eqiV neq .nilI = some (.bool (!neq)) := by cases neq <;> rfl
@[go_sem] theorem eqiV_2 {neq : Bool} {t : TypeId} {v : AV} : eqiV neq (.ifc t v) = some (.bool neq) := by cases neq <;> rfl
@[go_sem] theorem aop_eqni {neq : Bool} {x : Opd} : aop w0 (.eqni neq x) fr h = onV (eqiV neq (x.ev fr)) h := by
 simp only [aop,eqiV]
 cases uH (x.ev fr) <;> rfl
@[go_sem] theorem aop_tass {t : TypeId} {z : AV} {ok : Bool} {x : Opd} : aop w0 (.tass t z ok x) fr h = onV (tO t z ok (x.ev fr)) h := by simp only [aop,hE]
@[go_sem] theorem tassA_n {t : TypeId} {z : AV} : tO t z true .nilI = some (.tup [z,.bool false]) := (rfl)
@[go_sem] theorem tassA_i {t t' : TypeId} {z v : AV} : tO t z true (.ifc t' v) = some (if t' = t then .tup [v,.bool true] else .tup [z,.bool false]) := by
 simp only [tO,if_true]; split <;> rfl
@[go_sem] theorem aop_copy {es : Nat} {x y : Opd} : aop w0 (.copy es x y) fr h = qM w0 h es (x.ev fr) (y.ev fr) := (rfl)
@[go_sem] theorem aop_mkif {t : TypeId} {x : Opd} : aop w0 (.mkif t x) fr h = some (.ifc t (x.ev fr),h) := (rfl)
@[go_sem] theorem aop_mkfn {f : Fn} {a b : List Opd} : aop w0 (.mkfn f a b) fr h = some (.fn f (a.map (·.ev fr)) (b.map (·.ev fr)),h) := (rfl)
@[go_sem] theorem aop_mkmap : aop w0 .mkmap fr h = some (.map h.length,h ++ [some (.map [])]) := (rfl)
@[go_sem] theorem tH {k : IntKind} {n : Nat} : bZ (.int k (n : Int)) = some n := by simp [bZ]
@[go_sem low] theorem asNat_i {k : IntKind} {n : Int} : bZ (.int k n) = if 0 ≤ n then some n.toNat else none := (rfl)
def mkslV (es : Nat) (z : List AV) (bytes : Nat) (a b : Option Nat) (h : Heap) : Option (AV × Heap) := match a,b with
 | some l,some c => if l ≤ c ∧ c * (bytes + 1) ≤ 2 ^ 40 then jR h (fH z c) l es (l == c) else none
 | _,_ => none
@[go_sem] theorem mkslV_s {es : Nat} {z : List AV} {bytes l c : Nat} : mkslV es z bytes (some l) (some c) h = if l ≤ c ∧ c * (bytes + 1) ≤ 1099511627776 then some (.sl (.own h.length 0) l es (l == c),h ++ [some (.row (fH z c))]) else none := (rfl)
@[go_sem] theorem aop_mksl {es : Nat} {z : List AV} {bytes : Nat} {l c : Opd} : aop w0 (.mksl es z bytes l c) fr h = mkslV es z bytes (bZ (l.ev fr)) (bZ (c.ev fr)) h := (rfl)
def aGC (x : AV) (off : Nat) : Option AV := match x with
 | .ptr p => some (.ptr (p.add off))
 | _ => none
@[go_sem] theorem addrV_p {p : Pl} {off : Nat} : aGC (.ptr p) off = some (.ptr (p.add off)) := (rfl)
@[go_sem] theorem add_own {i o n : Nat} : Pl.add (.own i o) n = .own i (o + n) := (rfl)
@[go_sem] theorem aop_addr {x : Opd} {off : Nat} : aop w0 (.addr x off) fr h = onV (aGC (x.ev fr) off) h := by
 simp only [aop,aGC]; generalize Opd.ev fr x = v; cases v <;> rfl
def fldV (x : AV) (off : Nat) (n : Option Nat) : Option AV := match x with
 | .agg l => fI l off n
 | _ => none
@[go_sem] theorem fldV_a {l : List AV} {off : Nat} {n : Option Nat} : fldV (.agg l) off n = fI l off n := (rfl)
@[go_sem] theorem pickAgg_n {l : List AV} {off : Nat} : fI l off none = l[off]? := (rfl)
@[go_sem] theorem pickAgg_s {l : List AV} {off n : Nat} : fI l off (some n) = some (.agg ((l.drop off).take n)) := (rfl)
@[go_sem] theorem aop_fld {x : Opd} {off : Nat} {n : Option Nat} : aop w0 (.fld x off n) fr h = onV (fldV (x.ev fr) off n) h := by
 simp only [aop,fldV]; generalize Opd.ev fr x = v; cases v <;> simp only [hE] <;> rfl
def cB (es : Nat) (x : AV) (i : Option Nat) : Option AV := match x,i with
 | .sl p len es' _,some j => if eD p es es' = true ∧ j < len then some (.ptr (p.add (j * es))) else none
 | _,_ => none
@[go_sem] theorem idxsV_s {es es' len j : Nat} {p : Pl} {f : Bool} : cB es (.sl p len es' f) (some j) = if eD p es es' = true ∧ j < len then some (.ptr (p.add (j * es))) else none := (rfl)
@[go_sem] theorem aop_idxs {es : Nat} {x i : Opd} : aop w0 (.idxs es x i) fr h = onV (cB es (x.ev fr) (bZ (i.ev fr))) h := by
 simp only [aop,cB]
 generalize Opd.ev fr x = a
 generalize bZ (Opd.ev fr i) = b
 cases a <;> cases b <;> try rfl
 simp only
 split <;> rfl
@[go_sem] theorem oV {p : Pl} {es : Nat} : eD p es es = true := by cases p <;> simp [eD]
def aFX (n es : Nat) (x : AV) (i : Option Nat) : Option AV := match x,i with
 | .ptr p,some j => if j < n then some (.ptr (p.add (j * es))) else none
 | _,_ => none
@[go_sem] theorem idxaV_s {n es j : Nat} {p : Pl} : aFX n es (.ptr p) (some j) = if j < n then some (.ptr (p.add (j * es))) else none := (rfl)
@[go_sem] theorem aop_idxa {n es : Nat} {x i : Opd} : aop w0 (.idxa n es x i) fr h = onV (aFX n es (x.ev fr) (bZ (i.ev fr))) h := by
 simp only [aop,aFX]
 generalize Opd.ev fr x = a
 generalize bZ (Opd.ev fr i) = b
 cases a <;> cases b <;> try rfl
 simp only
 split <;> rfl
def aDL (n es : Nat) (agg : Bool) (x : AV) (i : Option Nat) : Option AV := match x,i with
 | .agg l,some j => if j < n then fI l (j * es) (if agg then some es else none) else none
 | _,_ => none
@[go_sem] theorem idxV_t {n es j : Nat} {l : List AV} : aDL n es true (.agg l) (some j) = if j < n then some (.agg ((l.drop (j * es)).take es)) else none := by simp only [aDL,fI]; rfl
@[go_sem] theorem idxV_f {n es j : Nat} {l : List AV} : aDL n es false (.agg l) (some j) = if j < n then l[j * es]? else none := by simp [aDL,fI]
@[go_sem] theorem aop_idx {n es : Nat} {agg : Bool} {x i : Opd} : aop w0 (.idx n es agg x i) fr h = onV (aDL n es agg (x.ev fr) (bZ (i.ev fr))) h := by
 simp only [aop,aDL]
 generalize Opd.ev fr x = a
 generalize bZ (Opd.ev fr i) = b
 cases a <;> cases b <;> try rfl
 simp only
 split
 · simp only [hE]
 · rfl
def extV (x : AV) (i : Nat) : Option AV := match x with
 | .tup l => l[i]?
 | _ => none
@[go_sem] theorem extV_t {l : List AV} {i : Nat} : extV (.tup l) i = l[i]? := (rfl)
@[go_sem] theorem aop_ext {x : Opd} {i : Nat} : aop w0 (.ext x i) fr h = onV (extV (x.ev fr) i) h := by
 simp only [aop,extV]; generalize Opd.ev fr x = v; cases v <;> simp only [hE] <;> rfl
def fA (x : AV) : Option AV := match x with
 | .sl _ n _ _ => some (.int .i64 n)
 | .nilS => some (.int .i64 0)
 | _ => none
@[go_sem] theorem lenV_s {p : Pl} {n es : Nat} {f : Bool} : fA (.sl p n es f) = some (.int .i64 n) := (rfl)
@[go_sem] theorem lenV_n : fA .nilS = some (.int .i64 0) := (rfl)
@[go_sem] theorem aop_len' {x : Opd} : aop w0 (.len x) fr h = onV (fA (x.ev fr)) h := by
 simp only [aop,fA]; generalize Opd.ev fr x = v; cases v <;> rfl
@[go_sem] theorem aop_lena {n : Nat} : aop w0 (.lena n) fr h = some (.int .i64 n,h) := (rfl)
def mmV (isMin : Bool) (l : List AV) : Option AV := match l with
 | v :: r => mm isMin v r
 | [] => none
@[go_sem] theorem aJ7 {b : Bool} {l : List Opd} : aop w0 (.minmax b l) fr h = onV (mmV b (l.map (·.ev fr))) h := by
 simp only [aop,mmV]; generalize l.map (·.ev fr) = v; cases v <;> simp only [hE] <;> rfl
@[go_sem] theorem mmV_min {k k' : IntKind} {a b : Int} : mmV true [.int k a,.int k' b] = some (.int k (min a b)) := by
 simp only [mmV,mm,if_true]
 congr 2
 rw [Int.min_def]; split <;> split <;> omega
@[go_sem] theorem mmV_max {k k' : IntKind} {a b : Int} : mmV false [.int k a,.int k' b] = some (.int k (max a b)) := by
 simp only [mmV,mm]
 congr 2
 simp only [Bool.false_eq_true,if_false]
 rw [Int.max_def]; split <;> split <;> omega
def sS (es : Nat) (fr : Fr) (x : AV) (lo hi mx : Option Opd) : Option AV := match x with
 | .sl p len es' full => if eD p es es' = true then
  (cO fr len lo hi mx).map fun b => .sl (p.add (b.1 * es)) (b.2.1 - b.1) es' (eP b.2.2 b.2.1 (full && b.2.1 == len))
  else none
 | .nilS => (cO fr 0 lo hi mx).map fun _ => .nilS
 | _ => none
@[go_sem] theorem aop_slc {es : Nat} {x : Opd} {lo hi mx : Option Opd} : aop w0 (.slc es x lo hi mx) fr h = onV (sS es fr (x.ev fr) lo hi mx) h := by
 simp only [aop,sS]
 generalize Opd.ev fr x = a
 cases a <;> try rfl
 · rename_i p len es' full
   simp only
   split
   · cases cO fr len lo hi mx <;> rfl
   · rfl
 · simp only
   cases cO fr 0 lo hi mx <;> rfl
@[go_sem] theorem aop_app {es : Nat} {z : List AV} {bytes : Nat} {x y : Opd} : aop w0 (.app es z bytes x y) fr h = fM w0 h es bytes (x.ev fr) (y.ev fr) := (rfl)
def aBq (w0 : World) (fr : Fr) (h : Heap) : List RV → Option (List AV)
 | [] => some []
 | r :: rs => (pN w0 fr h r).bind fun v => (aBq w0 fr h rs).map fun l => v :: l
theorem aHq {rs : List RV} : rs.mapM (pN w0 fr h) = aBq w0 fr h rs := by
 induction rs with
 | nil => rfl
 | cons r rs ih =>
  simp only [List.mapM_cons,aBq,← ih]
  cases pN w0 fr h r with
  | none => rfl
  | some v => cases rs.mapM (pN w0 fr h) <;> rfl
def one' (l : List AV) : AV := match l with
 | [v] => v
 | l => .tup l
@[go_sem] theorem one'_1 {v : AV} : one' [v] = v := (rfl)
@[go_sem] theorem one'_0 : one' [] = .tup [] := (rfl)
@[go_sem] theorem one'_2 {a b : AV} {l : List AV} : one' (a :: b :: l) = .tup (a :: b :: l) := (rfl)
def lH (w0 : World) (fr : Fr) (h : Heap) (rs : List RV) (acc : List AV) (K : AV → Heap → Prop) : Prop := ∃ l,aBq w0 fr h rs = some l ∧ K (one' (acc ++ l)) h
def aDw (w0 : World) (fr : Fr) (h : Heap) (o : Option AV) (rs : List RV) (acc : List AV) (K : AV → Heap → Prop) : Prop := ∃ v,o = some v ∧ lH w0 fr h rs (acc ++ [v]) K
@[go_sem] theorem resS_0 {acc : List AV} {K : AV → Heap → Prop} : lH w0 fr h [] acc K = K (one' acc) h := by simp [lH,aBq]
@[go_sem] theorem resS_1 {x : RV} {rs : List RV} {acc : List AV} {K : AV → Heap → Prop} : lH w0 fr h (x :: rs) acc K = aDw w0 fr h (pN w0 fr h x) rs acc K := by
 simp only [lH,aDw,aBq,eq_iff_iff]
 cases pN w0 fr h x with
 | none => simp
 | some v =>
  simp only [Option.bind_some,Option.map_eq_some_iff,Option.some.injEq]
  constructor
  · rintro ⟨_,⟨l,h1,rfl⟩,h2⟩; exact ⟨v,rfl,l,h1,by simpa using h2⟩
  · rintro ⟨_,rfl,l,h1,h2⟩; exact ⟨_,⟨l,h1,rfl⟩,by simpa using h2⟩
@[go_sem] theorem resT_s {v : AV} {rs : List RV} {acc : List AV} {K : AV → Heap → Prop} : aDw w0 fr h (some v) rs acc K = lH w0 fr h rs (acc ++ [v]) K := by simp [aDw]
@[go_sem] theorem resT_i {c : Prop} [Decidable c] {v : AV} {rs : List RV} {acc : List AV} {K : AV → Heap → Prop} : aDw w0 fr h (if c then some v else none) rs acc K = (c ∧ lH w0 fr h rs (acc ++ [v]) K) := by
 by_cases hc : c <;> simp [aDw,hc]
theorem pO {rs : List RV} {K : AV → Heap → Prop} : (∃ v,iG w0 rs fr h = some v ∧ K v h) ↔ lH w0 fr h rs [] K := by
 rw [lH,iG,aHq]
 cases aBq w0 fr h rs with
 | none => simp
 | some l =>
  simp only [Option.map_some,Option.some.injEq,List.nil_append]
  constructor
  · rintro ⟨v,rfl,k⟩; exact ⟨l,rfl,k⟩
  · rintro ⟨_,rfl,k⟩; exact ⟨_,rfl,k⟩
@[go_sem] theorem resK_n {rs : List RV} {K : AV → Heap → Prop} : resK w0 rs K .normal fr h = lH w0 fr h rs [] K := propext pO
@[go_sem] theorem resK_r {rs : List RV} {K : AV → Heap → Prop} : resK w0 rs K .ret fr h = lH w0 fr h rs [] K := propext pO
def fin (h : Heap) (v v' : AV) (h' : Heap) : Prop := v' = v ∧ ∃ k,h' = h ++ k
@[go_sem] theorem fin_a {v v' : AV} {k : Heap} : fin h v v' (h ++ k) = (v' = v) := by simp [fin]
theorem zU {rs : List RV} {v : AV} {h' : Heap} : (iG w0 rs fr h' = some v ∧ ∃ k,h' = h ++ k) = lH w0 fr h' rs [] (fin h v) := by
 rw [← pO,eq_iff_iff]
 exact ⟨fun ⟨a,b⟩ => ⟨v,a,rfl,b⟩,fun ⟨_,a,e,b⟩ => by subst e; exact ⟨a,b⟩⟩
@[go_sem] theorem quietK_n {rs : List RV} {v : AV} {h' : Heap} : aBs w0 rs h v .normal fr h' = lH w0 fr h' rs [] (fin h v) := zU
@[go_sem] theorem quietK_r {rs : List RV} {v : AV} {h' : Heap} : aBs w0 rs h v .ret fr h' = lH w0 fr h' rs [] (fin h v) := zU
@[go_sem] theorem resV_t {t : Nat} : pN w0 fr h (.t t) = some (fr.get t) := (rfl)
@[go_sem] theorem resV_c {t : Nat} {g : Option Nat} : pN w0 fr h (.c t g) = aCr w0 h (fr.get t) g := (rfl)
@[go_sem] theorem len_app {l : Heap} : (h ++ l).length = h.length + l.length := List.length_append
@[go_sem] theorem app_app {l k : Heap} : (h ++ l) ++ k = h ++ (l ++ k) := List.append_assoc _ _ _
@[go_sem] theorem app_get0 {l : Heap} : (h ++ l)[h.length]? = l[0]? := by rw [List.getElem?_append_right (Nat.le_refl _)]; simp
@[go_sem] theorem app_get {l : Heap} {k : Nat} : (h ++ l)[h.length + k]? = l[k]? := by rw [List.getElem?_append_right (by omega)]; congr 1; omega
@[go_sem] theorem app_set0 {l : Heap} {b : Option Blk} : (h ++ l).set h.length b = h ++ l.set 0 b := by rw [List.set_append_right _ _ (Nat.le_refl _)]; simp
@[go_sem] theorem app_set {l : Heap} {k : Nat} {b : Option Blk} : (h ++ l).set (h.length + k) b = h ++ l.set k b := by
 rw [List.set_append_right _ _ (by omega)]; congr 2; omega
attribute [go_sem] List.cons_append List.nil_append List.length_cons List.length_nil List.getElem?_cons_zero List.getElem?_cons_succ List.set_cons_zero List.set_cons_succ List.take_succ_cons List.take_zero
 List.drop_succ_cons List.drop_zero List.take_nil List.drop_nil List.map_cons List.map_nil List.all_cons List.all_nil Nat.add_zero Nat.zero_add Bool.and_true Bool.true_and Bool.and_self
 decide_eq_true_eq decide_eq_false_iff_not if_true if_false true_and and_true Bool.not_eq_true' Bool.not_eq_false' Bool.not_true Bool.not_false Option.some.injEq
 beq_iff_eq bne_iff_ne beq_eq_false_iff_ne bne_eq_false_iff_eq ne_eq List.length_set
end
end Go.Proofs.Ab
namespace Go.Proofs.Ab
open Go
section
variable {P : Program} {w0 : World} {r : Option Nat} {nt Z : Nat} {fr : Fr} {h : Heap} {Q : Exit → Fr → Heap → Prop} {k : List It} {a : SC}
theorem aE (hm : P.follows .mixedOrders = true) (g : a.good = true) (keep : List Nat) {b : SC} (eb : a = b) (e : ex P w0 r nt Z Q b (.inLoop keep a :: k) fr h) : lp P w0 r nt Z Q a k fr h := EvL_sx hm g keep (aBK (eb ▸ e))
attribute [go_sem] decide_true decide_false
theorem fO {S : Type} (F : S → Fr) (H : S → Heap) (meas : S → Nat) (Inv : S → Prop) (s0 : S) (i0 : Inv s0) (hf : fr = F s0) (hh : h = H s0)
 (step : ∀ s,Inv s → (∀ s',Inv s' → meas s' < meas s → lp P w0 r nt Z Q a k (F s') (H s')) → lp P w0 r nt Z Q a k (F s) (H s)) : lp P w0 r nt Z Q a k fr h := by
 subst hf; subst hh
 have key : ∀ n s,meas s < n → Inv s → lp P w0 r nt Z Q a k (F s) (H s) := by
  intro n
  induction n with
  | zero => intro s hs _; omega
  | succ n ih => intro s hs hi; exact step s hi fun s' hi' hlt => ih s' (by omega) hi'
 exact key _ s0 (Nat.lt_succ_self _) i0
def HBs (N : Nat) (l : Heap) : Prop := ∀ b,some b ∈ l → Blk.bdd N b
def FB (N : Nat) (fr : Fr) : Prop := ∀ p ∈ fr,p.2.bdd N
theorem FB.get {N : Nat} (hf : FB N fr) (t : Nat) : (fr.get t).bdd N := by
 induction fr with
 | nil => exact trivial
 | cons p r ih =>
  simp only [Fr.get]
  split
  · exact hf p List.mem_cons_self
  · exact ih fun q hq => hf q (List.mem_cons_of_mem _ hq)
theorem vF {l : Heap} (hb : HB h) (hl : HBs (h.length + l.length) l) : HB (h ++ l) := by
 intro i b hi
 rw [List.length_append]
 rcases Nat.lt_or_ge i h.length with hlt | hge
 · rw [List.getElem?_append_left hlt] at hi; exact Blk.bdd_mono (Nat.le_add_right _ _) (hb i b hi)
 · rw [List.getElem?_append_right hge] at hi; exact hl b (List.mem_of_getElem? hi)
theorem cA {N : Nat} : HBs N [] ↔ True := by simp [HBs]
theorem bL {N : Nat} {b : Blk} {l : Heap} : HBs N (some b :: l) ↔ b.bdd N ∧ HBs N l := by
 simp only [HBs,List.mem_cons]
 constructor
 · intro x; exact ⟨x b (.inl rfl),fun c hc => x c (.inr hc)⟩
 · rintro ⟨x,y⟩ c (hc | hc)
   · cases hc; exact x
   · exact y c hc
theorem bR {N : Nat} {l : Heap} : HBs N (none :: l) ↔ HBs N l := by
 simp only [HBs,List.mem_cons]
 constructor
 · intro x c hc; exact x c (.inr hc)
 · rintro y c (hc | hc)
   · cases hc
   · exact y c hc
theorem cT {N : Nat} : FB N [] ↔ True := by simp [FB]
theorem cH {N t : Nat} {v : AV} : FB N ((t,v) :: fr) ↔ v.bdd N ∧ FB N fr := by simp [FB]
theorem bT {N : Nat} {l : List AV} : Blk.bdd N (.row l) ↔ AV.bdds N l := by
 simp only [Blk.bdd]; exact bV.symm
theorem hJ (n : Nat) {l : Heap} (hb : HB h) (hl : HBs (h.length + (l.take n).length) (l.take n)) (hf : FB (h.length + (l.take n).length) fr)
 (e : lp P w0 r nt h.length Q a k fr (h ++ l.take n)) : lp P w0 r nt h.length Q a k fr (h ++ l) := by
 have : h ++ l = (h ++ l.take n) ++ l.drop n := by rw [List.append_assoc,List.take_append_drop]
 rw [this]
 refine aA4 (vF hb hl) (by rw [List.length_append]; exact Nat.le_add_right _ _) (fun t => ?_) (fun t => .inr rfl) e
 rw [List.length_append]; exact hf.get t
theorem Pl.add_add {p : Pl} {m n : Nat} : (p.add m).add n = p.add (m + n) := by
 cases p with
 | old a =>
  simp only [Pl.add,Addr.add]
  by_cases hm : m = 0
  · subst hm; simp
  · by_cases hn : n = 0
    · subst hn; simp [hm]
    · simp [hm,hn,Nat.add_assoc]
 | own i o => simp only [Pl.add,Nat.add_assoc]
theorem kV {l : Heap} {p : Pl} {v : AV} (e : rd w0 h p = some v) : rd w0 (h ++ l) p = some v := by
 cases p with
 | old a => exact e
 | own i o =>
  simp only [rd] at e ⊢
  split at e
  · rename_i c hc; rw [aA hc]; exact e
  · cases e
theorem dB {l : Heap} {p : Pl} {n : Nat} {v : List AV} (e : rdn w0 h p n = some v) : rdn w0 (h ++ l) p n = some v := by
 cases p with
 | old a => exact e
 | own i o =>
  simp only [rdn] at e ⊢
  split at e
  · rename_i c hc; rw [aA hc]; exact e
  · cases e
def Sl (w0 : World) (h : Heap) (es : Nat) (v : AV) (rows : List (List AV)) : Prop :=
 (v = .nilS ∧ rows = []) ∨ ∃ p full,(∃ es',v = .sl p rows.length es' full ∧ eD p es es' = true) ∧ p.bdd h.length ∧ ∀ (j : Nat) c,rows[j]? = some c → rdn w0 h (p.add (j * es)) es = some c
theorem Sl.app {es : Nat} {v : AV} {rows : List (List AV)} {l : Heap} (s : Sl w0 h es v rows) : Sl w0 (h ++ l) es v rows := by
 rcases s with s | ⟨p,full,s1,s2,s3⟩
 · exact .inl s
 · exact .inr ⟨p,full,s1,Pl.bdd_mono (by simp) s2,fun j c hc => dB (s3 j c hc)⟩
theorem Sl.bdd {es : Nat} {v : AV} {rows : List (List AV)} (s : Sl w0 h es v rows) {N : Nat} (hN : h.length ≤ N) : v.bdd N := by
 rcases s with ⟨s,_⟩ | ⟨p,full,s1,s2,_⟩
 · subst s; trivial
 · obtain ⟨es',rfl,_⟩ := s1; exact Pl.bdd_mono hN s2
theorem jH {p : Pl} {n : Nat} {l : List AV} (e : rdn w0 h p n = some l) : l.length = n ∧ ∀ (o m : Nat),o + m ≤ n → rdn w0 h (p.add o) m = some ((l.drop o).take m) := by
 obtain ⟨h1,h2⟩ := mP e
 refine ⟨h1,fun o m hom => ?_⟩
 cases p with
 | own i b =>
  simp only [rdn] at e
  split at e
  · rename_i c hc
    split at e
    · rename_i hle
      cases e
      simp only [Pl.add,rdn,hc]
      rw [if_pos (by omega),List.drop_take,List.take_take,List.drop_drop]
      congr 2; omega
    · cases e
  · cases e
 | old a =>
  have key : ∀ m o,o + m ≤ n → ((List.range m).mapM fun j => (w0.cell? ((a.add o).add j)).map inj) = some ((l.drop o).take m) := by
   intro m
   induction m with
   | zero => intro o _; simp
   | succ m ih =>
    intro o ho
    have hrow : ∀ j,j < n → (w0.cell? (a.add j)).map inj = l[j]? := fun j hj => by
     have hx : l[j]? = some l[j] := List.getElem?_eq_getElem (by omega)
     have := h2 j _ hx
     rw [hx]; simpa [rd,Pl.add] using this
    rw [List.range_succ,List.mapM_append,ih o (by omega)]
    have ha : (a.add o).add m = a.add (o + m) := by
     have := Pl.add_add (p := .old a) (m := o) (n := m)
     simpa [Pl.add] using this
    simp only [List.mapM_cons,List.mapM_nil,ha,hrow (o + m) (by omega)]
    rw [List.getElem?_eq_getElem (show o + m < l.length by omega)]
    simp only [Option.bind_eq_bind,Option.bind_some,Option.pure_def,Option.some.injEq]
    rw [List.take_add_one,List.getElem?_drop,List.getElem?_eq_getElem (show o + m < l.length by omega)]
    simp
  exact key m o hom
theorem cS {p : Pl} {n : Nat} {l : List AV} (e : rdn w0 h p n = some l) {o : Nat} {x : AV} (hx : l[o]? = some x) : rd w0 h (p.add o) = some x := (mP e).2 o x hx
theorem Sl.use {es : Nat} {v : AV} {rows : List (List AV)} (s : Sl w0 h es v rows) :
 fA v = some (.int .i64 rows.length) ∧ ∃ p : Pl,(∀ j,j < rows.length → cB es v (some j) = some (.ptr (p.add (j * es)))) ∧
  (∀ (j : Nat) c,rows[j]? = some c → rdn w0 h (p.add (j * es)) es = some c) ∧ p.bdd h.length := by
 rcases s with ⟨s1,s2⟩ | ⟨p,full,s1,s2,s3⟩
 · subst s1; subst s2
   exact ⟨rfl,.old ⟨0,0,none⟩,fun j hj => by simp at hj,fun j c hc => by simp at hc,trivial⟩
 · obtain ⟨es',rfl,he⟩ := s1
   exact ⟨rfl,p,fun j hj => by simp [cB,hj,he],s3,s2⟩
end
end Go.Proofs.Ab
namespace Go.Proofs.Ab
open Go
theorem aM.v {P : Program} {w0 : World} {f : FuncId} {as : List AV} {h h1 : Heap} {v : AV} (c : aM P w0 f as h v h1) : aP P w0 (.fn (.func f) [] []) as h v h1 := by
 simp only [aP,aS,List.nil_append,List.append_nil]; exact c
theorem aM.vc {P : Program} {w0 : World} {f : FuncId} {first as capt : List AV} {h h1 : Heap} {v : AV} (c : aM P w0 f (first ++ as ++ capt) h v h1) : aP P w0 (.fn (.func f) first capt) as h v h1 := c
end Go.Proofs.Ab
namespace Go.Proofs.Ab
open Go
section
variable {P : Program} {w0 : World} {r : Option Nat} {nt Z : Nat} {fr : Fr} {h : Heap} {Q : Exit → Fr → Heap → Prop}
def mQ : MOp → Bool
 | .mov _ | .pick _ _ _ | .build _ _ | .nilck _ | .bin _ _ _ | .eqb _ _ _ | .eqag _ _ _ _ | .eqnil _ _ _ | .un _ _ | .conv _ _ | .mkif _ _ | .mkfn _ _ _ | .slc _ _ _ _ _ | .addr _ _ | .fld _ _ _ | .idxs _ _ _ | .idxa _ _ _ _ | .idx _ _ _ _ _ | .ext _ _ | .len _ | .lena _ | .minmax _ _ | .eqni _ _ | .tass _ _ _ _ => true
 | _ => false
theorem aGt {o : MOp} (q : mQ o = true) {v : AV} (e : aop w0 o fr h = some (v,h)) (k : Heap) : aop w0 o fr k = some (v,k) := by
 cases o <;> simp only [mQ,Bool.false_eq_true] at q <;> simp only [aop] at e ⊢
 all_goals
  first
   | (simp only [Option.some.injEq,Prod.mk.injEq] at e ⊢; exact ⟨e.1,trivial⟩)
   | (simp only [Option.bind_eq_some_iff,Option.some.injEq,Prod.mk.injEq] at e ⊢; obtain ⟨a,b,c,_⟩ := e; exact ⟨a,b,c,rfl⟩)
   | (repeat' split at e
      all_goals first
       | (cases e; done)
       | (simp_all; done)
       | (simp only [Option.bind_eq_some_iff,Option.some.injEq,Prod.mk.injEq] at e ⊢; obtain ⟨a,b,c,_⟩ := e; simp_all; done))
def msk : List Nat → Heap → Heap
 | [],h => h
 | i :: is,h => msk is (h.set i none)
theorem fJ (is : List Nat) (h : Heap) : (msk is h).length = h.length := by
 induction is generalizing h with
 | nil => rfl
 | cons i is ih => simp only [msk,ih,List.length_set]
theorem tD (is : List Nat) (h : Heap) (c : Nat) (hc : c < h.length) : (msk is h)[c]? = if c ∈ is then some none else h[c]? := by
 induction is generalizing h with
 | nil => simp [msk]
 | cons i is ih =>
  simp only [msk]
  rw [ih (h.set i none) (by simpa using hc),List.getElem?_set]
  by_cases h1 : c ∈ is
  · simp [h1]
  · by_cases h2 : i = c
    · subst h2; simp [h1,hc]
    · have : c ≠ i := fun e => h2 e.symm
      simp [h1,h2,this]
theorem aBu {o : MOp} (h : mQ o = true) : qop o = true := by cases o <;> first | rfl | (simp [mQ] at h)
end
@[go_sem] theorem add_e0 {n k : Nat} : (n = n + k) = (k = 0) := by simp
@[go_sem] theorem add_e1 {n k : Nat} : (n + k = n) = (k = 0) := by simp
@[go_sem] theorem add_e2 {n j k : Nat} : (n + j = n + k) = (j = k) := by simp
attribute [go_sem] Nat.add_assoc List.set_nil not_false_eq_true not_true_eq_false and_false false_and true_implies false_implies implies_true Bool.false_eq_true
section
variable {P : Program} {w0 : World} {r : Option Nat} {nt Z : Nat} {fr : Fr} {h : Heap} {Q : Exit → Fr → Heap → Prop} {k : List It} {a : SC}
theorem eL {S : Type} (F : Nat → S → Fr) (H : Nat → S → Heap) (Inv : Nat → S → Prop) (n : Nat) (s0 : S) (i0 : Inv 0 s0) (hf : fr = F 0 s0) (hh : h = H 0 s0)
 (body : ∀ j s,j < n → Inv j s → (∀ s',Inv (j + 1) s' → lp P w0 r nt Z Q a k (F (j + 1) s') (H (j + 1) s')) → lp P w0 r nt Z Q a k (F j s) (H j s))
 (done : ∀ s,Inv n s → lp P w0 r nt Z Q a k (F n s) (H n s)) : lp P w0 r nt Z Q a k fr h := by
 subst hf; subst hh
 have key : ∀ m j s,j + m = n → Inv j s → lp P w0 r nt Z Q a k (F j s) (H j s) := by
  intro m
  induction m with
  | zero => intro j s hj hi; obtain rfl : j = n := by omega
            exact done s hi
  | succ m ih => intro j s hj hi; exact body j s (by omega) hi fun s' hi' => ih (j + 1) s' (by omega) hi'
 exact key n 0 s0 (by omega) i0
theorem eM (F : Nat → Fr) (ok : Nat → Prop) (n : Nat) (hf : fr = F 0)
 (body : ∀ j,j < n → (∀ i,i < j → ok i) → (ok j → lp P w0 r nt Z Q a k (F (j + 1)) h) → lp P w0 r nt Z Q a k (F j) h)
 (done : (∀ i,i < n → ok i) → lp P w0 r nt Z Q a k (F n) h) : lp P w0 r nt Z Q a k fr h :=
 eL (S := Unit) (fun j _ => F j) (fun _ _ => h) (fun j _ => ∀ i,i < j → ok i) n () (fun i hi => by omega) hf rfl
  (fun j _ hj hi ih => body j hj hi fun hok => ih () fun i hij => by
   rcases Nat.lt_or_ge i j with h1 | h1
   · exact hi i h1
   · obtain rfl : i = j := by omega
     exact hok)
  (fun _ hi => done hi)
end
theorem Sl.one {w0 : World} {h : Heap} {es : Nat} {v : AV} {rows : List (List AV)} (s : Sl w0 h es v rows) : Ab.one v = true ∧ cellsOf v = some [v] := by
 rcases s with ⟨s,_⟩ | ⟨p,full,⟨es',s1,_⟩,_⟩
 · subst s; exact ⟨rfl,rfl⟩
 · subst s1; exact ⟨rfl,rfl⟩
end Go.Proofs.Ab
namespace Go.Proofs.Ab
open Go
section
variable {P : Program} {w0 : World} {r : Option Nat} {nt Z : Nat} {fr : Fr} {h : Heap} {Q : Exit → Fr → Heap → Prop} {k : List It} {a : SC}
def qJ (h1 : Heap) (v v' : AV) (h' : Heap) : Prop := v' = v ∧ ∃ k,h' = h1 ++ k
def pre : Heap → Heap → Prop
 | [],_ => True
 | a :: l,b :: l' => b = a ∧ pre l l'
 | _ :: _,[] => False
theorem aHx {l l' : Heap} : pre l l' ↔ ∃ k,l' = l ++ k := by
 induction l generalizing l' with
 | nil => simp [pre]
 | cons a l ih =>
  cases l' with
  | nil => simp [pre]
  | cons b l' =>
   simp only [pre,ih,List.cons_append,List.cons.injEq]
   exact ⟨fun ⟨e,k,e'⟩ => ⟨k,e,e'⟩,fun ⟨k,e,e'⟩ => ⟨e,k,e'⟩⟩
@[go_sem] theorem pre_n {l : Heap} : pre [] l = True := (rfl)
@[go_sem] theorem pre_c {a b : Option Blk} {l l' : Heap} : pre (a :: l) (b :: l') = (b = a ∧ pre l l') := (rfl)
@[go_sem] theorem finN_a {v v' : AV} {l l' : Heap} : qJ (h ++ l) v v' (h ++ l') = (v' = v ∧ pre l l') := by
 simp only [qJ,eq_iff_iff,aHx,List.append_assoc,List.append_cancel_left_eq]
def newK (w0 : World) (rs : List RV) (h1 : Heap) (v : AV) : Exit → Fr → Heap → Prop
 | .normal,fr,h' => lH w0 fr h' rs [] (qJ h1 v)
 | .ret,fr,h' => lH w0 fr h' rs [] (qJ h1 v)
 | _,_,_ => False
@[go_sem] theorem newK_n {rs : List RV} {v : AV} {h1 h' : Heap} : newK w0 rs h1 v .normal fr h' = lH w0 fr h' rs [] (qJ h1 v) := (rfl)
@[go_sem] theorem newK_r {rs : List RV} {v : AV} {h1 h' : Heap} : newK w0 rs h1 v .ret fr h' = lH w0 fr h' rs [] (qJ h1 v) := (rfl)
theorem nX (hm : P.follows .mixedOrders = true) {f : FuncId} {mf : SF} (hf : bF P f = some mf.er) (hb : aG P f = true) (g : mf.body.good = true) {args : List AV} (hn : args.length ≤ mf.nt) {v : AV} {L : Heap}
 (hv : v.bdd (h.length + L.length)) (hL : AV.bdds h.length args → HBs (h.length + L.length) L) (e : HB h → AV.bdds h.length args → sx P w0 none mf.nt h.length mf.body (eO args 0) (h ++ []) (newK w0 mf.res (h ++ L) v)) : aM P w0 f args h v (h ++ L) := by
 refine mF (bM hm hf hb g hn fun h1 h2 => iS _ (e h1 h2) fun e fr h' q => ?_)
 have : ∀ {fr : Fr} {h' : Heap},lH w0 fr h' mf.res [] (qJ (h ++ L) v) → ∃ v',iG w0 mf.res fr h' = some v' ∧ ∃ h1 k,h' = h1 ++ k ∧ h.length ≤ h1.length ∧ HB h1 ∧ v'.bdd h1.length ∧ v' = v ∧ h1 = h ++ L :=
  fun q => by
   obtain ⟨v',q1,q2,k,q3⟩ := pO.2 q
   subst q2
   exact ⟨_,q1,h ++ L,k,q3,by simp,vF h1 (hL h2),by rw [List.length_append]; exact hv,rfl,rfl⟩
 cases e with
 | normal => exact this q
 | ret => exact this q
 | _ => exact q.elim
theorem aFL (n : Nat) {l : Heap} (hz : Z ≤ h.length) (hb : HB h) (hl : HBs (h.length + (l.take n).length) (l.take n)) (hf : FB (h.length + (l.take n).length) fr)
 (e : lp P w0 r nt Z Q a k fr (h ++ l.take n)) : lp P w0 r nt Z Q a k fr (h ++ l) := by
 have : h ++ l = (h ++ l.take n) ++ l.drop n := by rw [List.append_assoc,List.take_append_drop]
 rw [this]
 refine aA4 (vF hb hl) (by rw [List.length_append]; omega) (fun t => ?_) (fun t => .inr rfl) e
 rw [List.length_append]; exact hf.get t
def yE (nt : Nat) (fr0 : Fr) (ps : Array Tmp) (ca cb : Code) (b : Option (Option Blk)) (A : Prop) : Prop := (∃ st pd,b = some (some (.loop nt fr0 ps ca cb st pd))) ∧ A
@[go_sem] theorem yE_s {fr0 : Fr} {ps : Array Tmp} {ca cb : Code} {st : LoopState} {pd : Option Code} {A : Prop} : yE nt fr0 ps ca cb (some (some (.loop nt fr0 ps ca cb st pd))) A = A := by simp [yE]
def yB (i nt : Nat) (fr0 : Fr) (ps : Array Tmp) (ca cb : Code) (K : AV → Heap → Prop) : Exit → Fr → Heap → Prop
 | .normal,_,h2 => yE nt fr0 ps ca cb h2[i]? (K (.bool true) (h2.set i (some (.loop nt fr0 ps ca cb .ready none))))
 | .ret,_,h2 => yE nt fr0 ps ca cb h2[i]? (K (.bool false) (h2.set i (some (.loop nt fr0 ps ca cb .done (some .ret)))))
 | .exit id,_,h2 => yE nt fr0 ps ca cb h2[i]? (K (.bool false) (h2.set i (some (.loop nt fr0 ps ca cb .done (some (.exit id))))))
 | _,_,_ => False
def yA (P : Program) (w0 : World) (i nt Z : Nat) (fr0 : Fr) (ps : Array Tmp) (ca cb : Code) (mb : SC) (K : AV → Heap → Prop) : Exit → Fr → Heap → Prop
 | .normal,fr1,h1 => h1[i]? = some (some (.loop nt fr0 ps ca cb .ready none)) ∧ ex P w0 (some i) nt Z (yB i nt fr0 ps ca cb K) mb [] fr1 (h1.set i (some (.loop nt fr0 ps ca cb .busy none)))
 | _,_,_ => False
section
variable {i id : Nat} {fr0 : Fr} {ps : Array Tmp} {ca cb : Code} {mb : SC} {K : AV → Heap → Prop}
@[go_sem] theorem yB_n : yB i nt fr0 ps ca cb K .normal fr h = yE nt fr0 ps ca cb h[i]? (K (.bool true) (h.set i (some (.loop nt fr0 ps ca cb .ready none)))) := (rfl)
@[go_sem] theorem yB_r : yB i nt fr0 ps ca cb K .ret fr h = yE nt fr0 ps ca cb h[i]? (K (.bool false) (h.set i (some (.loop nt fr0 ps ca cb .done (some .ret))))) := (rfl)
@[go_sem] theorem yB_e : yB i nt fr0 ps ca cb K (.exit id) fr h = yE nt fr0 ps ca cb h[i]? (K (.bool false) (h.set i (some (.loop nt fr0 ps ca cb .done (some (.exit id)))))) := (rfl)
@[go_sem] theorem yA_n : yA P w0 i nt Z fr0 ps ca cb mb K .normal fr h = (h[i]? = some (some (.loop nt fr0 ps ca cb .ready none)) ∧ ex P w0 (some i) nt Z (yB i nt fr0 ps ca cb K) mb [] fr (h.set i (some (.loop nt fr0 ps ca cb .busy none)))) := (rfl)
@[go_sem] theorem putPs_n : oG fr [] [] = fr := (rfl)
@[go_sem] theorem putPs_c {t : Tmp} {ts : List Tmp} {v : AV} {vs : List AV} : oG fr (t :: ts) (v :: vs) = oG ((t,v) :: fr) ts vs := (rfl)
theorem rT (hm : P.follows .mixedOrders = true) {psl : List Tmp} (hpl : ps.toList = psl) {ma ma' mb mb' : SC} (ga : ma.good = true) (gb : mb.good = true) (ea : ma = ma') (eb : mb = mb') (hi : h[i]? = some (some (.loop nt fr0 ps ca cb .ready none))) {args : List AV} (hl : args.length = ps.size)
 (hps : ∀ t ∈ ps.toList,t < nt) (hma : aY P nt ca = some ma.er) (hmb : aY P nt cb = some mb.er)
 (e : HB h → AV.bdds h.length args → ex P w0 (some i) nt h.length (yA P w0 i nt h.length fr0 ps ca cb mb' K) ma' [] (oG fr0 psl args) h) : aV P w0 i args h K := by
 subst hpl; subst ea; subst eb
 refine zA hi hl hps hma hmb fun h1 h2 => (dF hm ma ga (aX (e h1 h2))).mono fun e fr h q => ?_
 cases e with
 | normal =>
  refine ⟨rfl,q.1,(dF hm mb gb (aX q.2)).mono fun e fr h q => ?_⟩
  cases e with
  | normal => obtain ⟨⟨st,pd,e1⟩,q⟩ := q; exact ⟨st,pd,e1,q⟩
  | ret => obtain ⟨⟨st,pd,e1⟩,q⟩ := q; exact ⟨st,pd,e1,q⟩
  | exit id => obtain ⟨⟨st,pd,e1⟩,q⟩ := q; exact ⟨st,pd,e1,q⟩
  | _ => exact q.elim
 | _ => exact q.elim
end
theorem aG6 {i : Nat} {args : List AV} {K : AV → Heap → Prop} (c : aV P w0 i args h K) : aS P w0 (.yld i) args h K := c
def rgK (P : Program) (w0 : World) (r : Option Nat) (nt Z : Nat) (Q : Exit → Fr → Heap → Prop) (k : List It) (fr : Fr) (n : Nat) (h' : Heap) : Prop :=
 ∃ n0 f0 p0 a0 b0 st pd,h'[n]? = some (some (.loop n0 f0 p0 a0 b0 st pd)) ∧ st ≠ .busy ∧ uF (unw P w0 r nt Z Q k) fr (h'.set n none) pd
def rgE (P : Program) (w0 : World) (r : Option Nat) (nt Z : Nat) (Q : Exit → Fr → Heap → Prop) (k : List It) (fr : Fr) (b : Option (Option Blk)) (h' : Heap) : Prop :=
 ∃ n0 f0 p0 a0 b0 st pd,b = some (some (.loop n0 f0 p0 a0 b0 st pd)) ∧ st ≠ .busy ∧ uF (unw P w0 r nt Z Q k) fr h' pd
@[go_sem] theorem rgK_e {n : Nat} {h' : Heap} : rgK P w0 r nt Z Q k fr n h' = rgE P w0 r nt Z Q k fr h'[n]? (h'.set n none) := (rfl)
section
variable {n0 : Nat} {f0 : Fr} {p0 : Array Tmp} {a0 b0 : Code} {h' : Heap} {id : Nat}
theorem xQ {st : LoopState} {pd : Option Code} : rgE P w0 r nt Z Q k fr (some (some (.loop n0 f0 p0 a0 b0 st pd))) h' = (st ≠ .busy ∧ uF (unw P w0 r nt Z Q k) fr h' pd) := by
 simp only [rgE,eq_iff_iff]
 constructor
 · rintro ⟨_,_,_,_,_,_,_,e,h1,h2⟩; cases e; exact ⟨h1,h2⟩
 · rintro ⟨h1,h2⟩; exact ⟨_,_,_,_,_,_,_,rfl,h1,h2⟩
@[go_sem] theorem rgE_n : rgE P w0 r nt Z Q k fr (some (some (.loop n0 f0 p0 a0 b0 .ready none))) h' = un P w0 r nt Z Q .normal k fr h' := by rw [xQ]; simp [uF,un]
@[go_sem] theorem rgE_r : rgE P w0 r nt Z Q k fr (some (some (.loop n0 f0 p0 a0 b0 .done (some .ret)))) h' = un P w0 r nt Z Q .ret k fr h' := by rw [xQ]; simp [uF,un]
@[go_sem] theorem rgE_x : rgE P w0 r nt Z Q k fr (some (some (.loop n0 f0 p0 a0 b0 .done (some (.exit id))))) h' = un P w0 r nt Z Q (.exit id) k fr h' := by rw [xQ]; simp [uF,un]
end
theorem xP (ks : List Nat) {f : Opd} {ps : Array Tmp} {ca cb : Code} {ma mb : SC} (e : rg P w0 r nt Z Q f ps ca cb ma mb k (gN fr ks) h) : rg P w0 r nt Z Q f ps ca cb ma mb k fr h := rS (nL ks fr) e
theorem aBo {f : Opd} {ps : Array Tmp} {ca cb : Code} {ma mb : SC} {fid : FuncId} {first capt : List AV} (hfv : f.ev fr = .fn (.func fid) first capt)
 (hr : r = none ∨ ∃ i0 n0 f0 p0 a0 b0 s0 d0,r = some i0 ∧ h[i0]? = some (some (.loop n0 f0 p0 a0 b0 s0 d0)))
 (call : aY P nt ca = some ma.er → aY P nt cb = some mb.er → (∀ t ∈ ps.toList,t < nt) → ACall P w0 fid (first ++ [.yld h.length] ++ capt) (h ++ [some (.loop nt fr ps ca cb .ready none)]) fun _ h' => rgK P w0 r nt Z Q k fr h.length h') :
 rg P w0 r nt Z Q f ps ca cb ma mb k fr h := aJV hfv hr call
theorem iJ {p : Bool} {l : List MIx} {fl : List Bool} {d : Option Nat} {f : AV} {as : List AV} {v : AV} (c : aP P w0 f as h v h) (e : rd' P w0 r nt Z Q fl l k (fr.put d v) h) : rdC P w0 r nt Z Q p f as d fl l k fr h := by
 cases p with
 | true => exact tU c (Nat.le_refl _) e
 | false => exact aHv c e
theorem bC {N nt : Nat} {fr : Fr} {ps : Array Tmp} {ca cb : Code} {st : LoopState} {pd : Option Code} (hf : FB N fr) : Blk.bdd N (.loop nt fr ps ca cb st pd) = True := by
 simp only [Blk.bdd,eq_iff_iff,iff_true]; exact fun t => hf.get t
end
end Go.Proofs.Ab

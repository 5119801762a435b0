/- The own layer under the proofs of this seat, part H: what calls of the program come to on an abstract heap. No condition. -/
import Derived.Test.YtijiinmeodpanaaG
import Derived.Test.YtijiinmeodpanaaF
import Derived.Maps.RangeRun
set_option linter.unusedSimpArgs false
set_option linter.unusedVariables false
namespace Go.Proofs.Ab
open Go
def Pl.nd : Pl → Nat
 | .old _ => 0
 | .own i _ => i + 1
mutual
def AV.nd : AV → Nat
 | .agg l | .tup l => AV.nds l
 | .ptr p | .sl p _ _ _ => p.nd
 | .map i | .yld i => i + 1
 | .fn _ x y => max (AV.nds x) (AV.nds y)
 | .ifc _ x => x.nd
 | _ => 0
def AV.nds : List AV → Nat
 | [] => 0
 | x :: xs => max x.nd (AV.nds xs)
end
theorem Pl.nd_bdd {p : Pl} {N : Nat} (h : p.nd ≤ N) : p.bdd N := by cases p <;> simp_all [Pl.nd,Pl.bdd]; omega
mutual
theorem AV.nd_bdd {N : Nat} : ∀ v : AV,v.nd ≤ N → v.bdd N
 | .agg l,h => by simp only [AV.nd,AV.bdd] at *; exact AV.nds_bdd l h
 | .tup l,h => by simp only [AV.nd,AV.bdd] at *; exact AV.nds_bdd l h
 | .ptr p,h => by simp only [AV.nd,AV.bdd] at *; exact Pl.nd_bdd h
 | .sl p _ _ _,h => by simp only [AV.nd,AV.bdd] at *; exact Pl.nd_bdd h
 | .map i,h => by simp only [AV.nd,AV.bdd] at *; omega
 | .yld i,h => by simp only [AV.nd,AV.bdd] at *; omega
 | .fn _ x y,h => by simp only [AV.nd,AV.bdd] at *; exact ⟨AV.nds_bdd x (by omega),AV.nds_bdd y (by omega)⟩
 | .ifc _ x,h => by simp only [AV.nd,AV.bdd] at *; exact AV.nd_bdd x h
 | .undef,_ | .int _ _,_ | .bool _,_ | .str _,_ | .nilP,_ | .nilS,_ | .nilM,_ | .nilF,_ | .nilI,_ => by simp only [AV.bdd]
theorem AV.nds_bdd {N : Nat} : ∀ l : List AV,AV.nds l ≤ N → AV.bdds N l
 | [],_ => trivial
 | x :: xs,h => by simp only [AV.nds] at h; exact ⟨AV.nd_bdd x (by omega),AV.nds_bdd xs (by omega)⟩
end
def frNd : Fr → Nat
 | [] => 0
 | (_,v) :: r => max v.nd (frNd r)
theorem yJ {N : Nat} : ∀ {fr : Fr},frNd fr ≤ N → ∀ t,(fr.get t).bdd N
 | [],_,_ => by simp [Fr.get,AV.bdd]
 | (k,v) :: r,h,t => by
  simp only [frNd] at h
  simp only [Fr.get]
  split
  · exact AV.nd_bdd v (by omega)
  · exact yJ (by omega) t
def aBu : List (AV × AV) → Nat
 | [] => 0
 | e :: r => max (max e.1.nd e.2.nd) (aBu r)
theorem tC {N : Nat} : ∀ {l : List (AV × AV)},aBu l ≤ N → ∀ e ∈ l,e.1.bdd N ∧ e.2.bdd N
 | [],_,e,he => by cases he
 | x :: r,h,e,he => by
  simp only [aBu] at h
  rcases List.mem_cons.1 he with rfl | he
  · exact ⟨AV.nd_bdd _ (by omega),AV.nd_bdd _ (by omega)⟩
  · exact tC (by omega) e he
def blkNd : Option Blk → Nat
 | none => 0
 | some (.row c) => AV.nds c
 | some (.map es) => aBu es
 | some (.loop _ fr _ _ _ _ _) => frNd fr
theorem aCY {b : Blk} {N : Nat} (h : blkNd (some b) ≤ N) : b.bdd N := by
 cases b with
 | row c => exact bK.1 (AV.nds_bdd c h)
 | map es => exact tC h
 | loop nt fr ps a b st pd => exact yJ h
def jG : aA → Nat
 | [] => 0
 | b :: r => max (blkNd b) (jG r)
theorem rF {N : Nat} : ∀ {h : aA},jG h ≤ N → ∀ (i : Nat) b,h[i]? = some (some b) → b.bdd N
 | [],_,i,b,e => by simp at e
 | x :: r,h,i,b,e => by
  simp only [jG] at h
  cases i with
  | zero => simp only [List.getElem?_cons_zero,Option.some.injEq] at e; subst e; exact aCY (by omega)
  | succ i => simp only [List.getElem?_cons_succ] at e; exact rF (by omega) i b e
def xZ (h : aA) : Nat → Nat → Option Nat
 | 0,_ => none
 | f + 1,n => match Nat.ble (jG (h.take n)) n with
  | true => some n
  | false => xZ h f (jG (h.take n))
theorem rB {h : aA} : ∀ {f n k : Nat},xZ h f n = some k → n ≤ k ∧ jG (h.take k) ≤ k
 | 0,_,_,e => by simp [xZ] at e
 | f + 1,n,k,e => by
  simp only [xZ] at e
  split at e
  · rename_i hb
    cases e
    exact ⟨Nat.le_refl _,qE hb⟩
  · rename_i hb
    obtain ⟨h1,h2⟩ := rB e
    have : ¬ jG (h.take n) ≤ n := fun hle => by rw [Nat.ble_eq_true_of_le hle] at hb; cases hb
    exact ⟨by omega,h2⟩
def zU (k : Nat) (v : AV) (h : aA) : aA :=
 match Nat.ble h.length k with
 | true => h
 | false => match xZ h 20 (max k v.nd) with
  | none => h
  | some n => match Nat.ble n h.length with
   | true => h.take n
   | false => h
mutual
def AV.eqb : AV → AV → Bool
 | .int k n,.int k' n' => (decide (k = k')) && decide (n = n')
 | .bool a,.bool b => a == b
 | .agg l,.agg l' => AV.eqbs l l'
 | .tup l,.tup l' => AV.eqbs l l'
 | .ptr (.own i o),.ptr (.own i' o') => Nat.beq i i' && Nat.beq o o'
 | .nilP,.nilP => true
 | .sl (.own i o) n es f,.sl (.own i' o') n' es' f' => (Nat.beq i i' && Nat.beq o o') && ((Nat.beq n n' && Nat.beq es es') && (f == f'))
 | .nilS,.nilS => true
 | .map i,.map i' => Nat.beq i i'
 | .nilM,.nilM => true
 | .nilF,.nilF => true
 | .undef,.undef => true
 | .fn (.func f) a b,.fn (.func f') a' b' => Nat.beq f f' && (AV.eqbs a a' && AV.eqbs b b')
 | _,_ => false
def AV.eqbs : List AV → List AV → Bool
 | [],[] => true
 | x :: xs,y :: ys => AV.eqb x y && AV.eqbs xs ys
 | _,_ => false
end
mutual
theorem AV.eqb_eq : ∀ {x y : AV},AV.eqb x y = true → x = y := fun {x y} e => by
 unfold AV.eqb at e
 split at e <;> try simp only [Bool.and_eq_true,decide_eq_true_eq,beq_iff_eq,aL,Bool.false_eq_true] at e
 · obtain ⟨rfl,rfl⟩ := e; rfl
 · subst e; rfl
 · rw [AV.eqbs_eq e]
 · rw [AV.eqbs_eq e]
 · obtain ⟨rfl,rfl⟩ := e; rfl
 · rfl
 · obtain ⟨⟨rfl,rfl⟩,⟨rfl,rfl⟩,rfl⟩ := e; rfl
 · rfl
 · subst e; rfl
 · rfl
 · rfl
 · rfl
 · obtain ⟨rfl,e1,e2⟩ := e; rw [AV.eqbs_eq e1,AV.eqbs_eq e2]
theorem AV.eqbs_eq : ∀ {x y : List AV},AV.eqbs x y = true → x = y := fun {x y} e => by
 unfold AV.eqbs at e
 split at e <;> simp only [Bool.and_eq_true,Bool.false_eq_true] at e
 · rfl
 · rw [AV.eqb_eq e.1,AV.eqbs_eq e.2]
end
structure P2 where
 c : Nat
 b : Nat
 o1 : List Nat × List (List Nat)
 o2 : List Nat × List (List Nat)
 keep : List Nat
structure Ev where
 w0 : World
 tab : Nat → Option SF
 orc : Nat → List AV → aA → Option (AV × aA)
 prm : List MIx → Option (List Nat × List (List Nat))
 reg : List MIx → List (List Nat) → Fr → aA → Option (Fr × aA)
 prm2 : List MIx → Option P2
 trm : Bool
abbrev LE := List (Nat × SC × SC)
abbrev zG := LE → AV → List AV → aA → Option (AV × aA)
abbrev Out := Option (Exit × Fr × aA)
def gO (g : Option (Nat × Bool)) (fr : Fr) : Option (Bool × Fr) :=
 match g with
 | none => some (true,fr)
 | some p => match fr.get p.1 with
  | .bool c => some (c == p.2,(p.1,.bool c) :: fr)
  | .tup [] => some (false,fr)
  | _ => none
def evI (w0 : World) (call : AV → List AV → aA → Option (AV × aA)) (fr : Fr) (h : aA) : MIx → Option (Fr × aA)
 | .op d g o => match gO g fr with
  | some (true,fr) => match aop w0 o fr h with
   | some p => some (fr.put d p.1,p.2)
   | none => none
  | some (false,fr) => some (fr.put d (.tup []),h)
  | none => none
 | .call d g f as => match gO g fr with
  | some (true,fr) => match call (f.ev fr) (as.map (·.ev fr)) h with
   | some p => some (fr.put d p.1,p.2)
   | none => none
  | some (false,fr) => some (fr.put d (.tup []),h)
  | none => none
def evO (w0 : World) (call : AV → List AV → aA → Option (AV × aA)) : List MIx → Fr → aA → Option (Fr × aA)
 | [],fr,h => some (fr,h)
 | x :: r,fr,h => match evI w0 call fr h x with
  | some p => evO w0 call r p.1 p.2
  | none => none
def qY : Option (Fr × aA) → Out
 | some p => some (.normal,p.1,p.2)
 | none => none
def evA (w0 : World) (lp : List MIx) (fr : Fr) (h : aA) : List Nat → Bool
 | [] => true
 | u :: us => (match lp[u]? with
  | some (.op (some t) g o) => (match want fr g with
   | some true => (match aop w0 o fr h with
    | some p => AV.eqb p.1 (fr.get t)
    | none => false)
   | some false => AV.eqb (.tup []) (fr.get t)
   | none => false)
  | _ => false) && evA w0 lp fr h us
def evW (w0 : World) (call : AV → List AV → aA → Option (AV × aA)) (lp : List MIx) (R : List (List Nat)) : List Nat → Fr → aA → Option (Fr × aA)
 | [],fr,h => some (fr,h)
 | i :: is,fr,h => match lp[i]? with
  | some x => match evI w0 call fr h x with
   | some p => match evA w0 lp p.1 p.2 (R.getD i []) with
    | true => evW w0 call lp R is p.1 p.2
    | false => none
   | none => none
  | none => none
def evD (w0 : World) (call : AV → List AV → aA → Option (AV × aA)) (l : List MIx) (bef : List (List Nat)) (π : List Nat) (R : List (List Nat)) (fr : Fr) (h : aA) : Out :=
 match π.mapM fun i => l[i]? with
 | some lp => match fA l.length π && (Nat.ble R.length lp.length && iP lp (fun p q => Nat.blt p lp.length && (Nat.blt q lp.length && bfr bef (π.getD p 0) (π.getD q 0))) fun p => R.getD p []) with
  | true => qY (evW w0 call lp R (List.range lp.length) fr h)
  | false => none
 | none => none
def yV (f g : Fr) : List Nat → Fr
 | [] => []
 | t :: ts => (t,match AV.eqb (f.get t) (g.get t) with
  | true => f.get t
  | false => .undef) :: yV f g ts
def vB : List (AV × AV) → List (AV × AV) → Bool
 | [],[] => true
 | x :: r,y :: r' => (AV.eqb x.1 y.1 && AV.eqb x.2 y.2) && vB r r'
 | _,_ => false
def vM : Option Blk → Option Blk → Bool
 | some (.row c),some (.row c') => AV.eqbs c c'
 | some (.map e),some (.map e') => vB e e'
 | _,_ => false
def vK : aA → aA → aA
 | x :: r,y :: r' => (match vM x y with
  | true => x
  | false => none) :: vK r r'
 | _,_ => []
def ord2 (l lp : List MIx) (π : List Nat) (R : List (List Nat)) (bfx : Nat → Nat → Bool) : Bool := fA l.length π && (Nat.ble R.length lp.length && iP lp (pE lp π bfx) fun p => R.getD p [])
def evD2 (w0 : World) (call : AV → List AV → aA → Option (AV × aA)) (l : List MIx) (bef : List (List Nat)) (q : P2) (fr : Fr) (h : aA) : Out :=
 match q.o1.1.mapM fun i => l[i]?,q.o2.1.mapM fun i => l[i]? with
 | some lp1,some lp2 => match (!(Nat.beq q.c q.b) && (List.range l.length).all fun i => (Nat.beq i q.c || Nat.beq i q.b) || (match l[i]? with
  | some x => kq x || (bfr bef i q.c || bfr bef i q.b)
  | none => true)) && (ord2 l lp1 q.o1.1 q.o1.2 (fun i j => bfr bef i j || (Nat.beq i q.b && Nat.beq j q.c)) && ord2 l lp2 q.o2.1 q.o2.2 (fun i j => bfr bef i j || (Nat.beq i q.c && Nat.beq j q.b))) with
  | true => match evW w0 call lp1 q.o1.2 (List.range lp1.length) fr h,evW w0 call lp2 q.o2.2 (List.range lp2.length) fr h with
   | some p1,some p2 => match Nat.beq p1.2.length p2.2.length with
    | true => some (.normal,yV p1.1 p2.1 q.keep,vK p1.2 p2.2)
    | false => none
   | _,_ => none
  | false => none
 | _,_ => none
def evL (body : Fr → aA → Out) (keep : List Nat) : Nat → Fr → aA → Out
 | 0,_,_ => none
 | n + 1,fr,h => match body fr h with
  | some (.normal,fr',h') => evL body keep n (gJ fr' keep) h'
  | x => x
def rOk (r : Option Nat) (h : aA) : Bool :=
 match r with
 | none => true
 | some i => match h[i]? with
  | some (some (.loop _ _ _ _ _ _ _)) => true
  | _ => false
def aBx (fr : Fr) (h : aA) : Option Code → Out
 | none => some (.normal,fr,h)
 | some .ret => some (.ret,fr,h)
 | some (.exit id) => some (.exit id,fr,h)
 | _ => none
def evS (V : Ev) (call : zG) (fuel : Nat) (r : Option Nat) (nt : Nat) (E : LE) : SC → Fr → aA → Out
 | .skip,fr,h => some (.normal,fr,h)
 | .ret,fr,h => some (.ret,fr,h)
 | .exit id,fr,h => some (.exit id,fr,h)
 | .reg l,fr,h => qY (evO V.w0 (call E) l fr h)
 | .draw [] l bef,fr,h => match V.reg l bef fr h with
  | some p => some (.normal,p.1,p.2)
  | none => match V.prm l with
   | some p => evD V.w0 (call E) l bef p.1 p.2 fr h
   | none => match V.prm2 l with
    | some q => evD2 V.w0 (call E) l bef q fr h
    | none => none
 | .draw (_ :: _) l _,fr,h => qY (evO V.w0 (call E) l fr h)
 | .seq a b,fr,h => match evS V call fuel r nt E a fr h with
  | some (.normal,fr,h) => evS V call fuel r nt E b fr h
  | x => x
 | .cond c a b,fr,h => match c with
  | .t t => match fr.get t with
   | .bool true => evS V call fuel r nt E a ((t,.bool true) :: fr) h
   | .bool false => evS V call fuel r nt E b ((t,.bool false) :: fr) h
   | _ => none
  | .k (.bool true) => evS V call fuel r nt E a fr h
  | .k (.bool false) => evS V call fuel r nt E b fr h
  | _ => none
 | .blk id a,fr,h => match evS V call fuel r nt E a fr h with
  | some (.exit i,fr,h) => match Nat.beq i id with
   | true => some (.normal,fr,h)
   | false => some (.exit i,fr,h)
  | x => x
 | .loop keep a,fr,h => evL (evS V call fuel r nt E a) keep fuel (gJ fr keep) h
 | .rng f ps ca cb ma mb,fr,h => match rOk r h,f.ev fr with
  | true,.fn (.func fid) first capt => match call ((h.length,ma,mb) :: E) (.fn (.func fid) first capt) [.yld h.length] (h ++ [some (.loop nt fr ps ca cb .ready none)]) with
   | some p => match p.2[h.length]? with
    | some (some (.loop _ _ _ _ _ st pd)) => match st with
     | .busy => none
     | _ => aBx fr (p.2.set h.length none) pd
    | _ => none
   | none => none
  | _,_ => none
 | .lab _,fr,h => some (.normal,fr,h)
 | .scope a,fr,h => match evS V call fuel r nt E a fr h with
  | some (.goto _,_,_) => none
  | x => x
 | .regC _ _ _ _ _,_,_ => none
 | .regP _ _ _ _,_,_ => none
 | .drawE _ _ _ _ _,_,_ => none
def xR (i : Nat) : LE → Option (SC × SC)
 | [] => none
 | p :: r => match Nat.beq p.1 i with
  | true => some p.2
  | false => xR i r
def qS (rec_ : LoopState → Option Code → Blk) (i : Nat) (h : aA) : Exit → Option (AV × aA)
 | .normal => some (.bool true,h.set i (some (rec_ .ready none)))
 | .ret => some (.bool false,h.set i (some (rec_ .done (some .ret))))
 | .exit id => some (.bool false,h.set i (some (rec_ .done (some (.exit id)))))
 | _ => none
def retO (w0 : World) (tr : Bool) (rs : List RV) (k : Nat) : Out → Option (AV × aA)
 | some (.normal,fr,h) | some (.ret,fr,h) => match fM w0 rs fr h with
  | some v => some (v,cond tr (zU k v h) h)
  | none => none
 | _ => none
def evC (V : Ev) : Nat → zG
 | 0,_,_,_,_ => none
 | n + 1,E,.fn (.func f) first capt,args,h => match V.orc f (first ++ args ++ capt) h with
  | some r => some r
  | none => match V.tab f with
   | none => none
   | some mf => match Nat.ble (first ++ args ++ capt).length mf.nt with
    | true => retO V.w0 V.trm mf.res h.length (evS V (evC V n) n none mf.nt E mf.body (cU (first ++ args ++ capt) 0) h)
    | false => none
 | n + 1,E,.yld i,args,h => match h[i]?,xR i E with
  | some (some (.loop nt fr0 ps ca cb .ready none)),some p => match Nat.beq args.length ps.size with
   | true => match evS V (evC V n) n (some i) nt E p.1 (jN fr0 ps.toList args) h with
    | some (.normal,fr1,h1) => match h1[i]? with
     | some (some (.loop _ _ _ _ _ .ready none)) => match evS V (evC V n) n (some i) nt E p.2 fr1 (h1.set i (some (.loop nt fr0 ps ca cb .busy none))) with
      | some (e,_,h2) => match h2[i]? with
       | some (some (.loop _ _ _ _ _ _ _)) => qS (.loop nt fr0 ps ca cb) i h2 e
       | _ => none
      | none => none
     | _ => none
    | _ => none
   | false => none
  | _,_ => none
 | _ + 1,_,_,_,_ => none
end Go.Proofs.Ab
namespace Go.Proofs.Ab
open Go
section
variable {P : Program} {w0 : World} {r : Option Nat} {nt Z : Nat} {fr : Fr} {h h' : aA}
def LS (h h' : aA) : Prop := h.length ≤ h'.length ∧ ∀ i,i < h.length → ∀ nt fr ps ca cb st pd,h'[i]? = some (some (.loop nt fr ps ca cb st pd)) → ∃ st0 pd0,h[i]? = some (some (.loop nt fr ps ca cb st0 pd0))
theorem LS.refl : LS h h := ⟨Nat.le_refl _,fun _ _ _ _ _ _ _ _ _ e => ⟨_,_,e⟩⟩
theorem LS.trans {h'' : aA} (a : LS h h') (b : LS h' h'') : LS h h'' :=
 ⟨Nat.le_trans a.1 b.1,fun i hi _ _ _ _ _ _ _ e => by
  obtain ⟨_,_,e⟩ := b.2 i (Nat.lt_of_lt_of_le hi a.1) _ _ _ _ _ _ _ e
  exact a.2 i hi _ _ _ _ _ _ _ e⟩
theorem LS.app {L : aA} : LS h (h ++ L) := ⟨by simp,fun i hi _ _ _ _ _ _ _ e => by rw [qH hi] at e; exact ⟨_,_,e⟩⟩
theorem LS.set {k : Nat} {b : Option Blk} (hb : ∀ nt fr ps ca cb st pd,b = some (.loop nt fr ps ca cb st pd) → ∃ st0 pd0,h[k]? = some (some (.loop nt fr ps ca cb st0 pd0))) : LS h (h.set k b) :=
 ⟨by simp,fun i hi nt fr ps ca cb st pd e => by
  by_cases hk : k = i
  · subst hk
    rw [qF hi] at e
    exact hb _ _ _ _ _ _ _ (Option.some.inj e)
  · rw [qB hk] at e; exact ⟨_,_,e⟩⟩
theorem LS.setR {k : Nat} {c : List AV} : LS h (h.set k (some (.row c))) := LS.set fun _ _ _ _ _ _ _ e => by cases e
theorem LS.setM {k : Nat} {c : List (AV × AV)} : LS h (h.set k (some (.map c))) := LS.set fun _ _ _ _ _ _ _ e => by cases e
theorem LS.setN {k : Nat} : LS h (h.set k none) := LS.set fun _ _ _ _ _ _ _ e => by cases e
theorem LS.take {n : Nat} (a : LS h h') (hn : h.length ≤ n) (hn' : n ≤ h'.length) : LS h (h'.take n) :=
 ⟨by rw [List.length_take]; omega,fun i hi _ _ _ _ _ _ _ e => by
  rw [List.getElem?_take_of_lt (by omega)] at e; exact a.2 i hi _ _ _ _ _ _ _ e⟩
theorem aHC {es b : Nat} {x y v : AV} (e : dS w0 h es b x y = some (v,h')) : LS h h' := by
 simp only [dS,qC] at e
 obtain ⟨nl,_,e⟩ := e
 split at e
 · split at e <;> simp only [Option.some.injEq,Prod.mk.injEq,reduceCtorEq] at e
   · obtain ⟨_,rfl⟩ := e; exact LS.refl
   · obtain ⟨_,rfl⟩ := e; exact LS.refl
 · split at e
   · split at e
     · simp only [eO,Option.some.injEq,Prod.mk.injEq] at e; obtain ⟨_,rfl⟩ := e; exact LS.app
     · cases e
   · split at e
     · split at e
       · simp only [qC,eO,Option.some.injEq,Prod.mk.injEq] at e
         obtain ⟨_,_,_,rfl⟩ := e; exact LS.app
       · split at e
         · simp only [qC,Option.some.injEq,Prod.mk.injEq] at e
           obtain ⟨_,_,_,rfl⟩ := e; exact LS.setN.trans LS.app
         · cases e
     · cases e
   · cases e
theorem aEI {es : Nat} {x y v : AV} (e : tT w0 h es x y = some (v,h')) : LS h h' := by
 simp only [tT,qC] at e
 obtain ⟨_,_,_,_,e⟩ := e
 split at e
 · simp only [Option.some.injEq,Prod.mk.injEq] at e; obtain ⟨_,rfl⟩ := e; exact LS.refl
 · split at e
   · simp only [qC] at e
     obtain ⟨_,_,e⟩ := e
     split at e
     · split at e
       · split at e
         · simp only [Option.some.injEq,Prod.mk.injEq] at e; obtain ⟨_,rfl⟩ := e; exact LS.setR
         · cases e
       · cases e
     · cases e
   · cases e
theorem aop_LS {o : MOp} {v : AV} (e : aop w0 o fr h = some (v,h')) : LS h h' := by
 cases hq : qop o with
 | true => rw [fF hq e]; exact LS.refl
 | false =>
  cases o <;> simp only [qop,Bool.true_eq_false] at hq <;> simp only [aop] at e
  case box x n =>
   split at e
   · split at e
     · simp only [Option.some.injEq,Prod.mk.injEq] at e; obtain ⟨_,rfl⟩ := e; exact LS.app
     · cases e
   · cases e
  case alloc z => simp only [Option.some.injEq,Prod.mk.injEq] at e; obtain ⟨_,rfl⟩ := e; exact LS.app
  case bslice es z len ps =>
   split at e
   · simp only [eO,Option.some.injEq,Prod.mk.injEq] at e; obtain ⟨_,rfl⟩ := e; exact LS.app
   · cases e
  case store x v n =>
   split at e
   · split at e
     · split at e
       · simp only [Option.some.injEq,Prod.mk.injEq] at e; obtain ⟨_,rfl⟩ := e; exact LS.setR
       · cases e
     · cases e
   · cases e
  case mkmap => simp only [Option.some.injEq,Prod.mk.injEq] at e; obtain ⟨_,rfl⟩ := e; exact LS.app
  case mksl es z b len cap =>
   split at e
   · split at e
     · simp only [eO,Option.some.injEq,Prod.mk.injEq] at e; obtain ⟨_,rfl⟩ := e; exact LS.app
     · cases e
   · cases e
  case mput s m k v =>
   split at e
   · cases e
   · split at e
     · split at e
       · split at e
         · simp only [Option.some.injEq,Prod.mk.injEq] at e; obtain ⟨_,rfl⟩ := e; exact LS.setM
         · simp only [Option.some.injEq,Prod.mk.injEq] at e; obtain ⟨_,rfl⟩ := e; exact LS.setM
         · cases e
       · cases e
     · cases e
  case app es z b x y => exact aHC e
  case copy es x y => exact aEI e
def EOK (P : Program) (E : LE) (h : aA) : Prop := ∀ i p,xR i E = some p → i < h.length ∧ p.1.good = true ∧ p.2.good = true ∧
 ∀ nt fr ps ca cb st pd,h[i]? = some (some (.loop nt fr ps ca cb st pd)) → aP P nt ca = some p.1.er ∧ aP P nt cb = some p.2.er ∧ ∀ t ∈ ps.toList,t < nt
theorem EOK.ls {E : LE} (k : EOK P E h) (l : LS h h') : EOK P E h' := fun i p e => by
 obtain ⟨h1,h2,h3,h4⟩ := k i p e
 refine ⟨Nat.lt_of_lt_of_le h1 l.1,h2,h3,fun nt fr ps ca cb st pd e => ?_⟩
 obtain ⟨_,_,e⟩ := l.2 i h1 _ _ _ _ _ _ _ e
 exact h4 _ _ _ _ _ _ _ e
theorem EOK.nil : EOK P [] h := fun i p e => by cases e
def CS (P : Program) (w0 : World) (call : zG) : Prop := ∀ E fv as h v h',call E fv as h = some (v,h') → (EOK P E h → bD P w0 fv as h fun v1 h1 => v1 = v ∧ h1 = h') ∧ LS h h'
def CS1 (P : Program) (w0 : World) (E : LE) (call : AV → List AV → aA → Option (AV × aA)) : Prop := ∀ fv as h v h',call fv as h = some (v,h') → (EOK P E h → bD P w0 fv as h fun v1 h1 => v1 = v ∧ h1 = h') ∧ LS h h'
theorem gO_T {g : Option (Nat × Bool)} {fr' : Fr} {A B : Fr → Prop} (e : gO g fr = some (true,fr')) (k : A fr') : gQ g fr A B ∧ want fr g = some true ∧ FE fr fr' := by
 cases g with
 | none => simp only [gO,Option.some.injEq,Prod.mk.injEq,true_and] at e; subst e; exact ⟨k,rfl,FE.refl _⟩
 | some p =>
  obtain ⟨t,b⟩ := p
  simp only [gO] at e
  simp only [gQ,want]
  generalize hv : fr.get t = v at e
  unfold gv
  split at e
  · rename_i c
    simp only [Option.some.injEq,Prod.mk.injEq,beq_iff_eq] at e
    obtain ⟨rfl,rfl⟩ := e
    refine ⟨⟨fun _ => k,fun e => ?_⟩,by simp,FE.put1 hv⟩
    cases c <;> cases e
  · simp at e
  · cases e
theorem gO_F {g : Option (Nat × Bool)} {fr' : Fr} {A B : Fr → Prop} (e : gO g fr = some (false,fr')) (k : B fr') : gQ g fr A B ∧ want fr g = some false ∧ FE fr fr' := by
 cases g with
 | none => simp [gO] at e
 | some p =>
  obtain ⟨t,b⟩ := p
  simp only [gO] at e
  simp only [gQ,want]
  generalize hv : fr.get t = v at e
  unfold gv
  split at e
  · rename_i c
    simp only [Option.some.injEq,Prod.mk.injEq,beq_eq_false_iff_ne,ne_eq] at e
    obtain ⟨e,rfl⟩ := e
    have : c = !b := by cases c <;> cases b <;> simp_all
    subst this
    refine ⟨⟨fun e2 => ?_,fun _ => k⟩,by simp,FE.put1 hv⟩
    cases b <;> cases e2
  · simp only [Option.some.injEq,Prod.mk.injEq,true_and] at e; subst e; exact ⟨k,rfl,FE.refl _⟩
  · cases e
theorem tP {call : AV → List AV → aA → Option (AV × aA)} {E : LE} (hc : CS1 P w0 E call) {x : MIx} {p : Fr × aA} (e : evI w0 call fr h x = some p) :
 LS h p.2 ∧ ∃ v,FE (fr.put x.dst v) p.1 ∧ (EOK P E h → (∀ r K,vc P w0 r p.1 p.2 K → vc P w0 (x :: r) fr h K) ∧ ∀ K : AV → aA → Prop,K v p.2 → opV P w0 x fr h K) := by
 cases x with
 | op d g o =>
  simp only [evI] at e
  split at e
  · rename_i fr1 hg
    split at e
    · rename_i q hq
      obtain ⟨v,h1⟩ := q
      simp only [Option.some.injEq] at e
      subst e
      obtain ⟨_,h2,h3⟩ := gO_T (A := fun _ => True) (B := fun _ => True) hg trivial
      have hq' : aop w0 o fr h = some (v,h1) := by rw [← h3.aop o]; exact hq
      refine ⟨aop_LS hq,v,h3.put _ _,fun _ => ⟨fun r K k => ?_,fun K k => ?_⟩⟩
      · simp only [vc]
        refine (gO_T hg ?_).1
        rw [hq]; exact k
      · simp only [opV,h2]; exact ⟨v,h1,hq',k⟩
    · cases e
  · rename_i fr1 hg
    simp only [Option.some.injEq] at e
    subst e
    obtain ⟨_,h2,h3⟩ := gO_F (A := fun _ => True) (B := fun _ => True) hg trivial
    refine ⟨LS.refl,.tup [],h3.put _ _,fun _ => ⟨fun r K k => ?_,fun K k => ?_⟩⟩
    · simp only [vc]; exact (gO_F hg k).1
    · simp only [opV,h2]; exact k
  · cases e
 | call d g f as =>
  simp only [evI] at e
  split at e
  · rename_i fr1 hg
    split at e
    · rename_i q hq
      obtain ⟨v,h1⟩ := q
      simp only [Option.some.injEq] at e
      subst e
      obtain ⟨_,h2,h3⟩ := gO_T (A := fun _ => True) (B := fun _ => True) hg trivial
      obtain ⟨c1,c2⟩ := hc _ _ _ _ _ hq
      have ef : ∀ o : Opd,o.ev fr1 = o.ev fr := fun o => by cases o with
       | t n => exact h3 n
       | k v => rfl
      refine ⟨c2,v,h3.put _ _,fun ek => ⟨fun r K k => ?_,fun K k => ?_⟩⟩
      · simp only [vc]
        refine (gO_T hg ?_).1
        exact bD.mono (c1 ek) fun v2 h2 ⟨e1,e2⟩ => by subst e1; subst e2; exact k
      · simp only [opV,h2]
        simp only [ef] at c1
        exact bD.mono (c1 ek) fun v2 h2 ⟨e1,e2⟩ => by subst e1; subst e2; exact k
    · cases e
  · rename_i fr1 hg
    simp only [Option.some.injEq] at e
    subst e
    obtain ⟨_,h2,h3⟩ := gO_F (A := fun _ => True) (B := fun _ => True) hg trivial
    refine ⟨LS.refl,.tup [],h3.put _ _,fun _ => ⟨fun r K k => ?_,fun K k => ?_⟩⟩
    · simp only [vc]; exact (gO_F hg k).1
    · simp only [opV,h2]; exact k
  · cases e
theorem nY {call : AV → List AV → aA → Option (AV × aA)} {E : LE} (hc : CS1 P w0 E call) : ∀ {l : List MIx} {fr : Fr} {h : aA} {p : Fr × aA},evO w0 call l fr h = some p → (EOK P E h → ∀ K : Fr → aA → Prop,K p.1 p.2 → vc P w0 l fr h K) ∧ LS h p.2
 | [],fr,h,p,e => by
  simp only [evO,Option.some.injEq] at e
  subst e
  exact ⟨fun _ K k => k,LS.refl⟩
 | x :: l,fr,h,p,e => by
  simp only [evO] at e
  split at e
  · rename_i q hq
    obtain ⟨h2,_,_,h1⟩ := tP hc hq
    obtain ⟨h3,h4⟩ := nY hc e
    exact ⟨fun ek K k => (h1 ek).1 _ _ (h3 (ek.ls h2) K k),h2.trans h4⟩
  · cases e
theorem tR {lp : List MIx} : ∀ {us : List Nat},evA w0 lp fr h us = true → vJ P w0 lp us fr h
 | [],_ => fun u hu => by cases hu
 | u :: us,e => by
  simp only [evA,Bool.and_eq_true] at e
  obtain ⟨e1,e2⟩ := e
  intro q hq
  rcases List.mem_cons.1 hq with rfl | hq
  · split at e1
    · rename_i t g o hx
      refine ⟨_,t,hx,rfl,?_⟩
      split at e1
      · rename_i hw
        split at e1
        · rename_i p hp
          simp only [opV,hw]
          exact ⟨_,_,hp,AV.eqb_eq e1⟩
        · cases e1
      · rename_i hw
        simp only [opV,hw]
        exact AV.eqb_eq e1
      · cases e1
    · cases e1
  · exact tR e2 q hq
theorem kN {call : AV → List AV → aA → Option (AV × aA)} {E : LE} (hc : CS1 P w0 E call) {lp : List MIx} {R : List (List Nat)} {K : Fr → aA → Prop} (hK : ∀ fr fr' h,FE fr fr' → K fr h → K fr' h) : ∀ {is : List Nat} {fr : Fr} {h : aA} {p : Fr × aA},evW w0 call lp R is fr h = some p → (EOK P E h → K p.1 p.2 → wli P w0 lp (fun i => R.getD i []) is fr h K) ∧ LS h p.2
 | [],fr,h,p,e => by
  simp only [evW,Option.some.injEq] at e
  subst e
  exact ⟨fun _ k => k,LS.refl⟩
 | i :: is,fr,h,p,e => by
  simp only [evW] at e
  split at e
  · rename_i x hx
    split at e
    · rename_i q hq
      split at e
      · rename_i hA
        obtain ⟨h2,v,h3,h4⟩ := tP hc hq
        obtain ⟨h5,h6⟩ := kN hc hK e
        refine ⟨fun ek k => ⟨x,hx,(h4 ek).2 _ ⟨?_,?_⟩⟩,h2.trans h6⟩
        · exact gR (fun _ _ _ _ t _ => h3 t) (tR hA)
        · exact uG hK (fun t => (h3 t).symm) (h5 (ek.ls h2) k)
      · cases e
    · cases e
  · cases e
end
theorem mapM_map {α β : Type} {f : α → Option β} : ∀ {l : List α} {k : List β},l.mapM f = some k → l.map f = k.map some
 | [],k,e => by simp at e; subst e; rfl
 | x :: l,k,e => by
  simp only [List.mapM_cons,Option.bind_eq_bind,qC,Option.pure_def,Option.some.injEq] at e
  obtain ⟨y,hy,ys,hys,rfl⟩ := e
  rw [List.map_cons,List.map_cons,hy,mapM_map hys]
structure vY (P : Program) (V : Ev) : Prop where
 hm : P.follows .mixedOrders = true
 tab : ∀ f mf,V.tab f = some mf → aS P f = some mf.er ∧ aC P f = true ∧ mf.body.good = true
 orc : ∀ f as h v h',V.orc f as h = some (v,h') → ACall P V.w0 f as h (fun v1 h1 => v1 = v ∧ h1 = h') ∧ LS h h'
 reg : ∀ l bef fr h p,V.reg l bef fr h = some p → (∀ r nt Z,EvM P V.w0 r nt Z (.draw l bef) fr h fun e fr1 h1 => e = .normal ∧ fr1 = p.1 ∧ h1 = p.2) ∧ LS h p.2
section
variable {P : Program} {V : Ev} {r : Option Nat} {nt : Nat} {E : LE} {fuel : Nat}
def Iss (e : Exit) (fr : Fr) (h : aA) : Exit → Fr → aA → Prop := fun e1 fr1 h1 => e1 = e ∧ fr1 = fr ∧ h1 = h
theorem lO {o : Option (Fr × aA)} {e : Exit} {fr : Fr} {h : aA} (k : qY o = some (e,fr,h)) : o = some (fr,h) ∧ e = .normal := by
 cases o with
 | none => cases k
 | some p => simp only [qY,Option.some.injEq,Prod.mk.injEq] at k; obtain ⟨rfl,rfl,rfl⟩ := k; exact ⟨rfl,rfl⟩
theorem aCN (ok : vY P V) {call : AV → List AV → aA → Option (AV × aA)} (hc : CS1 P V.w0 E call) {l : List MIx} {bef : List (List Nat)} {π : List Nat} {R : List (List Nat)} {fr fr' : Fr} {h h' : aA} {e : Exit} (k : evD V.w0 call l bef π R fr h = some (e,fr',h')) :
 (EOK P E h → ∀ Z,EvM P V.w0 r nt Z (.draw l bef) fr h (Iss e fr' h')) ∧ LS h h' := by
 simp only [evD] at k
 split at k
 · rename_i lp hlp
   split at k
   · rename_i hb
     simp only [Bool.and_eq_true] at hb
     obtain ⟨h1,h2,h3⟩ := hb
     obtain ⟨k2,rfl⟩ := lO k
     have hs := kN (P := P) hc (K := fun fr1 h1 => ∃ fr2,FE fr2 fr1 ∧ Iss .normal fr' h' .normal fr2 h1) (fun f f1 g ef ⟨f2,e2,q⟩ => ⟨f2,fun t => (ef t).trans (e2 t),q⟩) k2
     refine ⟨fun ek Z => EvM_fp ok.hm h1 (mapM_map hlp) h3 (fun j hj => ?_) (hs.1 ek ⟨fr',FE.refl _,rfl,rfl,rfl⟩),hs.2⟩
     rw [List.getD_eq_getElem?_getD,List.getElem?_eq_none (Nat.le_trans (qE h2) hj)]; rfl
   · cases k
 · cases k
theorem tD : ∀ {x y : List (AV × AV)},vB x y = true → x = y
 | [],[],_ => rfl
 | (k,v) :: r,(k',v') :: r',e => by
  simp only [vB,Bool.and_eq_true] at e
  rw [AV.eqb_eq e.1.1,AV.eqb_eq e.1.2,tD e.2]
 | [],_ :: _,e => by cases e
 | _ :: _,[],e => by cases e
theorem rN {f g : Fr} : ∀ (ts : List Nat) (t : Nat),((yV f g ts).get t = .undef ∨ (yV f g ts).get t = f.get t) ∧ ((yV f g ts).get t = .undef ∨ (yV f g ts).get t = g.get t)
 | [],_ => ⟨.inl rfl,.inl rfl⟩
 | u :: ts,t => by
  simp only [yV,Fr.get]
  cases hb : Nat.beq t u with
  | true =>
   obtain rfl := aL.1 hb
   cases he : AV.eqb (f.get t) (g.get t) with
   | true => exact ⟨.inr rfl,.inr (AV.eqb_eq he)⟩
   | false => exact ⟨.inl rfl,.inl rfl⟩
  | false => exact rN ts t
theorem aCZ {x y : Option Blk} (e : vM x y = true) : x = y := by
 unfold vM at e
 split at e
 · rw [AV.eqbs_eq e]
 · rw [tD e]
 · cases e
theorem yU : ∀ {x y : aA},x.length = y.length → (vK x y).length = x.length ∧ ∀ (i : Nat) (b : Blk),(vK x y)[i]? = some (some b) → x[i]? = some (some b) ∧ y[i]? = some (some b)
 | [],[],_ => ⟨rfl,fun i b e => by simp [vK] at e⟩
 | a :: r,c :: r',hl => by
  obtain ⟨h1,h2⟩ := yU (x := r) (y := r') (by simpa using hl)
  refine ⟨by simp [vK,h1],fun i b e => ?_⟩
  cases i with
  | zero =>
   simp only [vK,List.getElem?_cons_zero,Option.some.injEq] at e ⊢
   cases hb : vM a c with
   | true => rw [hb] at e; exact ⟨e,by rw [← aCZ hb]; exact e⟩
   | false => rw [hb] at e; cases e
  | succ i => simp only [vK,List.getElem?_cons_succ] at e ⊢; exact h2 i b e
 | [],_ :: _,hl => by simp at hl
 | _ :: _,[],hl => by simp at hl
theorem LS.weak {h H G : aA} (e : LS h H) (hl : G.length = H.length) (hs : ∀ (i : Nat) (b : Blk),G[i]? = some (some b) → H[i]? = some (some b)) : LS h G :=
 ⟨by rw [hl]; exact e.1,fun i hi _ _ _ _ _ _ _ k => e.2 i hi _ _ _ _ _ _ _ (hs i _ k)⟩
theorem aFk {w0 : World} {Z : Nat} {mc : MC} {fr : Fr} {h : aA} {Q : Exit → Fr → aA → Prop}
 (e : EvM P w0 r nt Z mc fr h fun e fr' h' => ∃ (fr2 : Fr) (h2 : aA),(∀ t,Fr.get fr2 t = .undef ∨ Fr.get fr2 t = Fr.get fr' t) ∧ (h2.length = h'.length ∧ ∀ (i : Nat) (b : Blk),h2[i]? = some (some b) → h'[i]? = some (some b)) ∧ Q e fr2 h2) : EvM P w0 r nt Z mc fr h Q := fun c hc m a w B l sa =>
 wpIn_mono (e c hc m a w B l sa) fun x a' w' ⟨m',fr',h',s,sa',fr2,h2,hf,⟨hl,hs⟩,q⟩ => by
  have sa2 := sa'.frame' hf
  exact ⟨m',fr2,h2,⟨s.sim.weaken hl hs,s.ext,s.mods,by rw [hl]; exact s.le,fun i b hi => s.roots i b (hs i b hi)⟩,⟨sa2.sim.weaken hl hs,by rw [hl]; exact sa2.frame,sa2.size,sa2.low,by
   obtain ⟨rs,h1,h3,h4⟩ := sa2.marks
   exact ⟨rs,h1,h3,fun q hq => ⟨(h4 q hq).1,(h4 q hq).2.1,fun i b hi => (h4 q hq).2.2 i b (hs i b hi)⟩⟩,sa2.rnd,sa2.inr,by rw [hl]; exact sa2.hz⟩,q⟩
theorem aAA (ok : vY P V) {call : AV → List AV → aA → Option (AV × aA)} (hc : CS1 P V.w0 E call) {l : List MIx} {bef : List (List Nat)} {q : P2} {fr fr' : Fr} {h h' : aA} {e : Exit} (k : evD2 V.w0 call l bef q fr h = some (e,fr',h')) :
 (EOK P E h → ∀ Z,EvM P V.w0 r nt Z (.draw l bef) fr h (Iss e fr' h')) ∧ LS h h' := by
 simp only [evD2] at k
 split at k
 · rename_i lp1 lp2 hl1 hl2
   split at k
   · rename_i hchk
     simp only [ord2,Bool.and_eq_true,Bool.not_eq_true',List.all_eq_true,List.mem_range,Bool.or_eq_true] at hchk
     obtain ⟨⟨hcb,hq⟩,⟨a1,a2,a3⟩,b1,b2,b3⟩ := hchk
     split at k
     · rename_i p1 p2 hw1 hw2
       split at k
       · rename_i heq
         obtain ⟨hl,hs⟩ := yU (aL.1 heq)
         have hln := hl.trans (aL.1 heq)
         simp only [Option.some.injEq,Prod.mk.injEq] at k
         obtain ⟨rfl,rfl,rfl⟩ := k
         obtain ⟨QQ,hQQ⟩ : ∃ QQ : Exit → Fr → aA → Prop,QQ = fun e f g => ∃ (fr2 : Fr) (h2 : aA),(∀ t,Fr.get fr2 t = .undef ∨ Fr.get fr2 t = Fr.get f t) ∧ (h2.length = g.length ∧ ∀ (i : Nat) (b : Blk),h2[i]? = some (some b) → g[i]? = some (some b)) ∧ Iss .normal (yV p1.1 p2.1 q.keep) (vK p1.2 p2.2) e fr2 h2 := ⟨_,rfl⟩
         have hs1 := kN (P := P) hc (K := fun fr1 h1 => ∃ fr2,FE fr2 fr1 ∧ QQ .normal fr2 h1) (fun f f1 g ef ⟨f2,e2,q⟩ => ⟨f2,fun t => (ef t).trans (e2 t),q⟩) hw1
         have hs2 := kN (P := P) hc (K := fun fr1 h1 => ∃ fr2,FE fr2 fr1 ∧ QQ .normal fr2 h1) (fun f f1 g ef ⟨f2,e2,q⟩ => ⟨f2,fun t => (ef t).trans (e2 t),q⟩) hw2
         have k1 : ∃ fr2,FE fr2 p1.1 ∧ QQ .normal fr2 p1.2 := ⟨p1.1,FE.refl _,by rw [hQQ]; exact ⟨_,_,fun t => (rN q.keep t).1,⟨hl,fun i b e => (hs i b e).1⟩,rfl,rfl,rfl⟩⟩
         have k2 : ∃ fr2,FE fr2 p2.1 ∧ QQ .normal fr2 p2.2 := ⟨p2.1,FE.refl _,by rw [hQQ]; exact ⟨_,_,fun t => (rN q.keep t).2,⟨hln,fun i b e => (hs i b e).2⟩,rfl,rfl,rfl⟩⟩
         have hR : ∀ {R : List (List Nat)} {lp : List MIx},Nat.ble R.length lp.length = true → ∀ j,lp.length ≤ j → R.getD j [] = [] := fun {R lp} hb j hj => by
          rw [List.getD_eq_getElem?_getD,List.getElem?_eq_none (Nat.le_trans (qE hb) hj)]; rfl
         have hq' : ∀ (i : Nat) x,l[i]? = some x → i ≠ q.c → i ≠ q.b → kq x = true ∨ bfr bef i q.c = true ∨ bfr bef i q.b = true := fun i x hx h1 h2 => by
          have := hq i (aF hx)
          rw [hx] at this
          simp only [Bool.or_eq_true] at this
          rcases this with h3 | h3
          · rcases h3 with h3 | h3
            · exact absurd (aL.1 h3) h1
            · exact absurd (aL.1 h3) h2
          · exact h3
         refine ⟨fun ek Z => aFk (by rw [← hQQ]; exact aHK (Q := QQ) ok.hm (c := q.c) (b := q.b) (fun e => by rw [aL.2 e] at hcb; cases hcb) a1 (mapM_map hl1) a3 (hR a2) b1 (mapM_map hl2) b3 (hR b2) hq' (hs1.1 ek k1) (hs2.1 ek k2)),hs1.2.weak hl fun i b e => (hs i b e).1⟩
       · cases k
     · cases k
   · cases k
 · cases k
theorem tO (ok : vY P V) {a : SC} {body : Fr → aA → Out} {keep : List Nat}
 (hb : ∀ fr h e fr' h',body fr h = some (e,fr',h') → (a.good = true → EOK P E h → ∀ Z,sx P V.w0 r nt Z a fr h (Iss e fr' h')) ∧ LS h h') :
 ∀ {n : Nat} {fr fr' : Fr} {h h' : aA} {e : Exit},evL body keep n fr h = some (e,fr',h') → (a.good = true → EOK P E h → ∀ Z,EvL P V.w0 r nt Z a.er fr h (Iss e fr' h')) ∧ LS h h'
 | 0,_,_,_,_,_,k => by cases k
 | n + 1,fr,fr',h,h',e,k => by
  simp only [evL] at k
  split at k
  · rename_i fr1 h1 hx
    obtain ⟨h2,h3⟩ := hb _ _ _ _ _ hx
    obtain ⟨h4,h5⟩ := tO ok hb k
    exact ⟨fun ga ek Z => aAT ok.hm ga keep (cY _ (h2 ga ek Z) fun e2 f2 g2 ⟨q1,q2,q3⟩ => by subst q1; subst q2; subst q3; exact h4 ga (ek.ls h3) Z),h3.trans h5⟩
  · rename_i hne
    obtain ⟨h2,h3⟩ := hb _ _ _ _ _ k
    refine ⟨fun ga ek Z => aAT ok.hm ga keep (cY _ (h2 ga ek Z) fun e2 f2 g2 ⟨q1,q2,q3⟩ => ?_),h3⟩
    subst q1; subst q2; subst q3
    cases e2 with
    | normal => exact absurd k (hne _ _)
    | _ => exact ⟨rfl,rfl,rfl⟩
theorem aD5 {h : aA} (k : rOk r h = true) : r = none ∨ ∃ i0 n0 f0 p0 a0 b0 s0 d0,r = some i0 ∧ h[i0]? = some (some (.loop n0 f0 p0 a0 b0 s0 d0)) := by
 cases r with
 | none => exact .inl rfl
 | some i =>
  simp only [rOk] at k
  split at k
  · rename_i hx; exact .inr ⟨i,_,_,_,_,_,_,_,rfl,hx⟩
  · cases k
theorem bZ (ok : vY P V) {call : zG} (hc : CS P V.w0 call) : ∀ (c : SC) {E : LE} {fr fr' : Fr} {h h' : aA} {e : Exit},evS V call fuel r nt E c fr h = some (e,fr',h') → (c.good = true → EOK P E h → ∀ Z,sx P V.w0 r nt Z c fr h (Iss e fr' h')) ∧ LS h h'
 | .skip,_,_,_,_,_,_,k => by
  simp only [evS,Option.some.injEq,Prod.mk.injEq] at k; obtain ⟨rfl,rfl,rfl⟩ := k; exact ⟨fun _ _ _ => ⟨rfl,rfl,rfl⟩,LS.refl⟩
 | .ret,_,_,_,_,_,_,k => by
  simp only [evS,Option.some.injEq,Prod.mk.injEq] at k; obtain ⟨rfl,rfl,rfl⟩ := k; exact ⟨fun _ _ _ => ⟨rfl,rfl,rfl⟩,LS.refl⟩
 | .exit id,_,_,_,_,_,_,k => by
  simp only [evS,Option.some.injEq,Prod.mk.injEq] at k; obtain ⟨rfl,rfl,rfl⟩ := k; exact ⟨fun _ _ _ => ⟨rfl,rfl,rfl⟩,LS.refl⟩
 | .lab _,_,_,_,_,_,_,k => by
  simp only [evS,Option.some.injEq,Prod.mk.injEq] at k; obtain ⟨rfl,rfl,rfl⟩ := k; exact ⟨fun _ _ _ => ⟨rfl,rfl,rfl⟩,LS.refl⟩
 | .regC _ _ _ _ _,_,_,_,_,_,_,k => by cases k
 | .regP _ _ _ _,_,_,_,_,_,_,k => by cases k
 | .drawE _ _ _ _ _,_,_,_,_,_,_,k => by cases k
 | .reg l,E,_,_,_,_,_,k => by
  simp only [evS] at k
  obtain ⟨k2,rfl⟩ := lO k
  obtain ⟨h1,h2⟩ := nY (P := P) (fun fv as h v h' => hc E fv as h v h') k2
  exact ⟨fun _ ek Z => h1 ek _ ⟨rfl,rfl,rfl⟩,h2⟩
 | .draw [] l bef,E,_,_,_,_,_,k => by
  simp only [evS] at k
  split at k
  · rename_i p hp
    simp only [Option.some.injEq,Prod.mk.injEq] at k; obtain ⟨rfl,rfl,rfl⟩ := k
    obtain ⟨h1,h2⟩ := ok.reg _ _ _ _ _ hp
    exact ⟨fun _ _ Z => h1 r nt Z,h2⟩
  · split at k
    · obtain ⟨h1,h2⟩ := aCN ok (r := r) (nt := nt) (fun fv as h v h' => hc E fv as h v h') k
      exact ⟨fun _ ek Z => h1 ek Z,h2⟩
    · split at k
      · obtain ⟨h1,h2⟩ := aAA ok (r := r) (nt := nt) (fun fv as h v h' => hc E fv as h v h') k
        exact ⟨fun _ ek Z => h1 ek Z,h2⟩
      · cases k
 | .draw (_ :: _) l _,E,_,_,_,_,_,k => by
  simp only [evS] at k
  obtain ⟨k2,rfl⟩ := lO k
  obtain ⟨h1,h2⟩ := nY (P := P) (fun fv as h v h' => hc E fv as h v h') k2
  exact ⟨fun _ ek Z => h1 ek _ ⟨rfl,rfl,rfl⟩,h2⟩
 | .seq a b,E,_,_,_,_,_,k => by
  simp only [evS] at k
  split at k
  · rename_i hx
    obtain ⟨h1,h2⟩ := bZ ok hc a hx
    obtain ⟨h3,h4⟩ := bZ ok hc b k
    exact ⟨fun g ek Z => by simp only [sx]; exact cY _ (h1 (Bool.and_eq_true_iff.1 g).1 ek Z) fun e2 f2 g2 ⟨q1,q2,q3⟩ => by subst q1; subst q2; subst q3; exact h3 (Bool.and_eq_true_iff.1 g).2 (ek.ls h2) Z,h2.trans h4⟩
  · rename_i hne
    obtain ⟨h1,h2⟩ := bZ ok hc a k
    refine ⟨fun g ek Z => ?_,h2⟩
    simp only [sx]
    refine cY _ (h1 (Bool.and_eq_true_iff.1 g).1 ek Z) fun e2 f2 g2 ⟨q1,q2,q3⟩ => ?_
    subst q1; subst q2; subst q3
    cases e2 with
    | normal => exact absurd k (hne _ _)
    | _ => exact ⟨rfl,rfl,rfl⟩
 | .cond c a b,E,fr,_,_,_,_,k => by
  simp only [evS] at k
  split at k
  · rename_i t
    split at k
    · rename_i hv
      obtain ⟨h1,h2⟩ := bZ ok hc a k
      refine ⟨fun g ek Z => ?_,h2⟩
      simp only [sx,kZ]
      rw [hv]
      exact ⟨fun _ => h1 (Bool.and_eq_true_iff.1 g).1 ek Z,fun e => by cases e⟩
    · rename_i hv
      obtain ⟨h1,h2⟩ := bZ ok hc b k
      refine ⟨fun g ek Z => ?_,h2⟩
      simp only [sx,kZ]
      rw [hv]
      exact ⟨fun e => (by cases e),fun _ => h1 (Bool.and_eq_true_iff.1 g).2 ek Z⟩
    · cases k
  · obtain ⟨h1,h2⟩ := bZ ok hc a k
    exact ⟨fun g ek Z => h1 (Bool.and_eq_true_iff.1 g).1 ek Z,h2⟩
  · obtain ⟨h1,h2⟩ := bZ ok hc b k
    exact ⟨fun g ek Z => h1 (Bool.and_eq_true_iff.1 g).2 ek Z,h2⟩
  · cases k
 | .blk id a,E,_,_,_,_,_,k => by
  simp only [evS] at k
  split at k
  · rename_i i fr1 h1 hx
    obtain ⟨q1,q2⟩ := bZ ok hc a hx
    split at k
    · rename_i hb
      simp only [Option.some.injEq,Prod.mk.injEq] at k; obtain ⟨rfl,rfl,rfl⟩ := k
      obtain rfl := aL.1 hb
      exact ⟨fun g ek Z => by simp only [sx]; exact cY _ (q1 g ek Z) fun e2 f2 g2 ⟨p1,p2,p3⟩ => by subst p1; subst p2; subst p3; simp only [vL,if_true]; exact ⟨rfl,rfl,rfl⟩,q2⟩
    · rename_i hb
      simp only [Option.some.injEq,Prod.mk.injEq] at k; obtain ⟨rfl,rfl,rfl⟩ := k
      have hne : i ≠ id := fun e => by rw [aL.2 e] at hb; cases hb
      exact ⟨fun g ek Z => by simp only [sx]; exact cY _ (q1 g ek Z) fun e2 f2 g2 ⟨p1,p2,p3⟩ => by subst p1; subst p2; subst p3; simp only [vL,if_neg hne]; exact ⟨rfl,rfl,rfl⟩,q2⟩
  · rename_i hne
    obtain ⟨h1,h2⟩ := bZ ok hc a k
    refine ⟨fun g ek Z => ?_,h2⟩
    simp only [sx]
    refine cY _ (h1 g ek Z) fun e2 f2 g2 ⟨q1,q2,q3⟩ => ?_
    subst q1; subst q2; subst q3
    cases e2 with
    | exit i => exact absurd k (hne _ _ _)
    | _ => exact ⟨rfl,rfl,rfl⟩
 | .scope a,E,_,_,_,_,_,k => by
  simp only [evS] at k
  split at k
  · cases k
  · rename_i hne
    obtain ⟨h1,h2⟩ := bZ ok hc a k
    refine ⟨fun g ek Z => ?_,h2⟩
    simp only [sx]
    refine cY _ (h1 g ek Z) fun e2 f2 g2 ⟨q1,q2,q3⟩ => ?_
    subst q1; subst q2; subst q3
    cases e2 with
    | goto i => exact absurd k (hne _ _ _)
    | _ => exact ⟨rfl,rfl,rfl⟩
 | .loop keep a,E,_,_,_,_,_,k => by
  simp only [evS] at k
  obtain ⟨h1,h2⟩ := tO ok (a := a) (E := E) (fun fr h e fr' h' k => bZ ok hc a k) k
  exact ⟨fun g ek Z => by simp only [sx]; exact h1 g ek Z,h2⟩
 | .rng f ps ca cb ma mb,E,fr,fr',h,h',e,k => by
  simp only [evS] at k
  split at k
  · rename_i fid first capt hr hf
    split at k
    · rename_i p hp
      split at k
      · rename_i n0 f0 p0 a0 b0 st pd hst
        have hE : ma.good = true → mb.good = true → EOK P E h → aP P nt ca = some ma.er → aP P nt cb = some mb.er → (∀ t ∈ ps.toList,t < nt) → EOK P ((h.length,ma,mb) :: E) (h ++ [some (.loop nt fr ps ca cb .ready none)]) := fun g1 g2 ek e1 e2 e3 i q hq => by
         simp only [xR] at hq
         split at hq
         · rename_i hb
           simp only [Option.some.injEq] at hq
           subst hq
           obtain rfl := aL.1 hb
           refine ⟨by simp,g1,g2,fun nt' fr' ps' ca' cb' st' pd' e => ?_⟩
           rw [qI (Nat.le_refl _),Nat.sub_self] at e
           simp only [List.getElem?_cons_zero,Option.some.injEq,Blk.loop.injEq] at e
           obtain ⟨rfl,rfl,rfl,rfl,rfl,rfl,rfl⟩ := e
           exact ⟨e1,e2,e3⟩
         · exact (ek.ls LS.app) i q hq
        have hj : st ≠ .busy ∧ aBx fr (p.2.set h.length none) pd = some (e,fr',h') := by cases st <;> first | (cases k; done) | exact ⟨by simp,k⟩
        obtain ⟨hb,hj⟩ := hj
        obtain ⟨c1,c2⟩ := hc _ _ _ _ p.1 p.2 hp
        have hj2 : fr' = fr ∧ h' = p.2.set h.length none ∧ ∀ Q : Exit → Fr → aA → Prop,Q e fr' h' → oL Q fr (p.2.set h.length none) pd := by
         unfold aBx at hj
         split at hj <;> simp only [Option.some.injEq,Prod.mk.injEq,reduceCtorEq] at hj <;> obtain ⟨rfl,rfl,rfl⟩ := hj <;> exact ⟨rfl,rfl,fun Q q => q⟩
        obtain ⟨rfl,rfl,hj3⟩ := hj2
        refine ⟨fun g ek Z => ?_,(LS.app.trans c2).trans LS.setN⟩
        simp only [sx]
        refine aB8 hf (aD5 hr) fun e1 e2 e3 => ACall.mono (c1 (hE (Bool.and_eq_true_iff.1 g).1 (Bool.and_eq_true_iff.1 g).2 ek e1 e2 e3)) fun v1 h1 ⟨q1,q2⟩ => ?_
        subst q2
        exact ⟨_,_,_,_,_,_,_,hst,hb,hj3 _ ⟨rfl,rfl,rfl⟩⟩
      · cases k
    · cases k
  · cases k
theorem zS {k : Nat} {v : AV} {h : aA} : zU k v h = h ∨ ∃ n,k ≤ n ∧ n ≤ h.length ∧ v.nd ≤ n ∧ jG (h.take n) ≤ n ∧ zU k v h = h.take n := by
 unfold zU
 split
 · exact .inl rfl
 · split
   · exact .inl rfl
   · rename_i n hn
     obtain ⟨h1,h2⟩ := rB hn
     split
     · rename_i hb
       exact .inr ⟨n,by omega,qE hb,by omega,h2,rfl⟩
     · exact .inl rfl
theorem sJ {k : Nat} {tr : Bool} {v : AV} {h : aA} : cond tr (zU k v h) h = h ∨ ∃ n,k ≤ n ∧ n ≤ h.length ∧ v.nd ≤ n ∧ jG (h.take n) ≤ n ∧ cond tr (zU k v h) h = h.take n := by
 cases tr
 · exact .inl rfl
 · exact zS
theorem aCo {tr : Bool} {rs : List RV} {k : Nat} {o : Out} {p : AV × aA} (e : retO V.w0 tr rs k o = some p) : ∃ x fr h v,o = some (x,fr,h) ∧ (x = .normal ∨ x = .ret) ∧ fM V.w0 rs fr h = some v ∧ p = (v,cond tr (zU k v h) h) := by
 unfold retO at e
 split at e
 · split at e
   · rename_i hv; exact ⟨_,_,_,_,rfl,.inl rfl,hv,(Option.some.inj e).symm⟩
   · cases e
 · split at e
   · rename_i hv; exact ⟨_,_,_,_,rfl,.inr rfl,hv,(Option.some.inj e).symm⟩
   · cases e
 · cases e
theorem xF {rec_ : LoopState → Option Code → Blk} {i : Nat} {h : aA} {e : Exit} {p : AV × aA} (k : qS rec_ i h e = some p) : (∃ st pd,p.2 = h.set i (some (rec_ st pd))) ∧ ∀ Q : AV → aA → Prop,Q p.1 p.2 → aDW Q rec_ i h e := by
 cases e <;> simp only [qS,Option.some.injEq,reduceCtorEq] at k <;> subst k <;> exact ⟨⟨_,_,rfl⟩,fun Q q => q⟩
theorem tQ (ok : vY P V) : ∀ n : Nat,CS P V.w0 (evC V n)
 | 0 => fun E fv as h v h' e => by cases e
 | n + 1 => fun E fv as h v h' e => by
  have ih := tQ ok n
  cases fv with
  | fn g first capt => cases g with
   | func f =>
    simp only [evC] at e
    split at e
    · rename_i q hq
      simp only [Option.some.injEq] at e
      subst e
      obtain ⟨h1,h2⟩ := ok.orc _ _ _ _ _ hq
      exact ⟨fun _ => h1,h2⟩
    · split at e
      · cases e
      · rename_i mf hmf
        split at e
        · rename_i hle
          obtain ⟨x,fr1,h1,v1,hx,hxe,hres,hp⟩ := aCo e
          simp only [Prod.mk.injEq] at hp
          obtain ⟨rfl,rfl⟩ := hp
          obtain ⟨g1,g2,g3⟩ := ok.tab _ _ hmf
          obtain ⟨s1,s2⟩ := bZ ok ih mf.body hx
          refine ⟨fun ek => ?_,?_⟩
          · have hk : ACall P V.w0 f (first ++ as ++ capt) h fun v2 h2 => v2 = v ∧ h2 = h1 :=
             cB ok.hm g1 g2 g3 (qE hle) fun _ _ => by
              rw [List.append_nil]
              refine cY _ (s1 g3 ek _) fun e2 f2 g2 ⟨q1,q2,q3⟩ => ?_
              subst q1; subst q2; subst q3
              rcases hxe with rfl | rfl
              · exact ⟨v,hres,rfl,rfl⟩
              · exact ⟨v,hres,rfl,rfl⟩
            rcases sJ (k := h.length) (tr := V.trm) (v := v) (h := h1) with ht | ⟨m,t1,t2,t3,t4,ht⟩
            · rw [ht]; exact hk
            · rw [ht]
              refine mG (hk.mono fun v2 h2 ⟨q1,q2⟩ => ?_)
              subst q1; subst q2
              have hl : (h2.take m).length = m := by rw [List.length_take]; omega
              exact ⟨h2.take m,h2.drop m,(List.take_append_drop m h2).symm,by omega,fun i b hi => by rw [hl]; exact rF t4 i b hi,by rw [hl]; exact AV.nd_bdd _ t3,rfl,rfl⟩
          · rcases sJ (k := h.length) (tr := V.trm) (v := v) (h := h1) with ht | ⟨m,t1,t2,t3,t4,ht⟩
            · rw [ht]; exact s2
            · rw [ht]; exact s2.take t1 t2
        · cases e
   | _ => simp [evC] at e
  | yld i =>
   simp only [evC] at e
   split at e
   · rename_i nt fr0 ps ca cb p hi hl
     split at e
     · rename_i hlen
       split at e
       · rename_i fr1 h1 hx
         split at e
         · rename_i n1 f1 p1 a1 b1 hi1
           split at e
           · rename_i x fr2 h2 hy
             split at e
             · rename_i n2 f2 p2 a2 b2 st2 pd2 hi2
               obtain ⟨⟨st3,pd3,hh⟩,hQ⟩ := xF e
               simp only at hh hQ
               obtain ⟨q1,q2⟩ := bZ ok ih p.1 (E := E) hx
               obtain ⟨r1,r2⟩ := bZ ok ih p.2 (E := E) hy
               have hil := aF hi
               obtain ⟨_,_,hi0⟩ := q2.2 i hil _ _ _ _ _ _ _ hi1
               rw [hi] at hi0
               simp only [Option.some.injEq,Blk.loop.injEq] at hi0
               obtain ⟨rfl,rfl,rfl,rfl,rfl,_,_⟩ := hi0
               have hil1 := aF hi1
               have ls1 : LS h1 (h1.set i (some (.loop nt fr0 ps ca cb .busy none))) := LS.set fun _ _ _ _ _ _ _ e => by
                simp only [Option.some.injEq,Blk.loop.injEq] at e
                obtain ⟨rfl,rfl,rfl,rfl,rfl,rfl,rfl⟩ := e
                exact ⟨_,_,hi1⟩
               obtain ⟨_,_,hi3⟩ := r2.2 i (by rw [List.length_set]; exact hil1) _ _ _ _ _ _ _ hi2
               rw [qF hil1] at hi3
               simp only [Option.some.injEq,Blk.loop.injEq] at hi3
               obtain ⟨rfl,rfl,rfl,rfl,rfl,_,_⟩ := hi3
               refine ⟨fun ek => ?_,?_⟩
               · obtain ⟨k1,k2,k3,k4⟩ := ek i p hl
                 obtain ⟨k5,k6,k7⟩ := k4 _ _ _ _ _ _ _ hi
                 show dI P V.w0 i as h _
                 refine nL hi (aL.1 hlen) k7 k5 k6 fun _ _ => (bY ok.hm p.1 k2 (q1 k2 ek _)).mono fun e2 f2 g2 ⟨x1,x2,x3⟩ => ?_
                 subst x1; subst x2; subst x3
                 refine ⟨rfl,hi1,(bY ok.hm p.2 k3 (r1 k3 ((ek.ls q2).ls ls1) _)).mono fun e3 f3 g3 ⟨y1,y2,y3⟩ => ?_⟩
                 subst y1; subst y2; subst y3
                 exact ⟨_,_,hi2,hQ _ ⟨rfl,rfl⟩⟩
               · rw [hh]
                 refine ((q2.trans ls1).trans r2).trans (LS.set fun _ _ _ _ _ _ _ e => ?_)
                 simp only [Option.some.injEq,Blk.loop.injEq] at e
                 obtain ⟨rfl,rfl,rfl,rfl,rfl,rfl,rfl⟩ := e
                 exact ⟨_,_,hi2⟩
             · cases e
           · cases e
         · cases e
       · cases e
     · cases e
   · cases e
  | _ => simp [evC] at e
end
end Go.Proofs.Ab
namespace Go.Proofs.Ab
open Go
def Pl.rn (ρ : Nat → Nat) : Pl → Pl
 | .old a => .old a
 | .own i o => .own (ρ i) o
mutual
def AV.rn (ρ : Nat → Nat) : AV → AV
 | .agg l => .agg (AV.rns ρ l)
 | .tup l => .tup (AV.rns ρ l)
 | .ptr p => .ptr (p.rn ρ)
 | .sl p n es f => .sl (p.rn ρ) n es f
 | .map i => .map (ρ i)
 | .yld i => .yld (ρ i)
 | .fn f x y => .fn f (AV.rns ρ x) (AV.rns ρ y)
 | .ifc t x => .ifc t (x.rn ρ)
 | v => v
def AV.rns (ρ : Nat → Nat) : List AV → List AV
 | [] => []
 | x :: xs => x.rn ρ :: AV.rns ρ xs
end
def Emb.rn (m : Emb) (ρ : Nat → Nat) : Emb := ⟨fun i => m.blk (ρ i),fun i => m.base (ρ i),fun i => m.sz (ρ i)⟩
theorem Emb.pl_rn {m : Emb} {ρ : Nat → Nat} {p : Pl} : (m.rn ρ).pl p = m.pl (p.rn ρ) := by cases p <;> rfl
mutual
theorem oO {m : Emb} {ρ : Nat → Nat} : ∀ (x : AV) (v : Value),VR m (x.rn ρ) v → VR (m.rn ρ) x v
 | .undef,_,_ => by simp only [VR]
 | .int _ _,_,hv | .bool _,_,hv | .str _,_,hv | .nilP,_,hv | .nilS,_,hv | .nilM,_,hv | .nilF,_,hv | .nilI,_,hv => by
  simpa only [VR,AV.rn] using hv
 | .agg l,v,hv => by
  simp only [VR,AV.rn] at *
  obtain ⟨a,e,hl⟩ := hv
  exact ⟨a,e,VRs_rn l _ hl⟩
 | .tup l,v,hv => by
  simp only [VR,AV.rn] at *
  obtain ⟨a,e,hl⟩ := hv
  exact ⟨a,e,VRs_rn l _ hl⟩
 | .ptr p,v,hv => by simp only [VR,AV.rn] at *; rw [Emb.pl_rn]; exact hv
 | .sl p len es full,v,hv => by
  simp only [VR,AV.rn] at *
  obtain ⟨a,cap,e,h1,h2,h3⟩ := hv
  refine ⟨a,cap,e,h1,h2,h3.imp id fun ⟨e1,e2⟩ => ⟨by rw [Emb.pl_rn]; exact e1,fun i off hp => ?_⟩⟩
  subst hp
  exact e2 (ρ i) off rfl
 | .map i,v,hv => by simp only [VR,AV.rn] at *; exact hv
 | .yld i,v,hv => by simp only [VR,AV.rn] at *; exact hv
 | .fn f x y,v,hv => by
  simp only [VR,AV.rn] at *
  obtain ⟨a,b,e,h1,h2⟩ := hv
  exact ⟨a,b,e,VRs_rn x _ h1,VRs_rn y _ h2⟩
 | .ifc t x,v,hv => by
  simp only [VR,AV.rn] at *
  obtain ⟨y,e,h1⟩ := hv
  exact ⟨y,e,oO x _ h1⟩
theorem VRs_rn {m : Emb} {ρ : Nat → Nat} : ∀ (x : List AV) (v : List Value),VRs m (AV.rns ρ x) v → VRs (m.rn ρ) x v
 | [],_,hv => by simpa only [VRs,AV.rns] using hv
 | x :: xs,v,hv => by
  simp only [VRs,AV.rns] at *
  obtain ⟨y,ys,e,h1,h2⟩ := hv
  exact ⟨y,ys,e,oO x _ h1,VRs_rn xs _ h2⟩
end
theorem aBd {ρ : Nat → Nat} : ∀ {c : List AV} {k : Nat} {x : AV},c[k]? = some x → (AV.rns ρ c)[k]? = some (x.rn ρ)
 | y :: c,0,x,e => by simp only [List.getElem?_cons_zero,Option.some.injEq] at e; subst e; rfl
 | y :: c,k + 1,x,e => by simp only [List.getElem?_cons_succ] at e; simpa only [AV.rns,List.getElem?_cons_succ] using aBd e
 | [],k,x,e => by simp at e
def BRn (ρ : Nat → Nat) : Blk → Blk → Prop
 | .row c,.row c' => c' = AV.rns ρ c
 | .map es,.map es' => es' = es.map fun e => (e.1.rn ρ,e.2.rn ρ)
 | .loop nt fr ps ca cb st pd,.loop nt' fr' ps' ca' cb' st' pd' => (nt = nt' ∧ ps = ps' ∧ ca = ca' ∧ cb = cb' ∧ st = st' ∧ pd = pd') ∧ ∀ t,(Fr.get fr t).rn ρ = Fr.get fr' t
 | _,_ => False
theorem BR_rn {m : Emb} {ρ : Nat → Nat} {d n : Nat} {b b' : Blk} (k : BRn ρ b b') {o : Option Obj} (hr : BR m d n b' o) : BR (m.rn ρ) d n b o := by
 cases b with
 | row c =>
  cases b' with
  | row c' =>
   simp only [BRn] at k
   subst k
   obtain ⟨ca,e,h1,h2,h3⟩ := hr
   exact ⟨ca,e,h1,h2,fun q x hx => by
    obtain ⟨y,y1,y2⟩ := h3 q _ (aBd hx)
    exact ⟨y,y1,oO _ _ y2⟩⟩
  | map => exact k.elim
  | loop => exact k.elim
 | map es =>
  cases b' with
  | map es' =>
   simp only [BRn] at k
   subst k
   obtain ⟨ea,ck,h1,h2,h3,h4,h5⟩ := hr
   refine ⟨ea,ck,h1,by simpa using h2,fun q x hx => ?_,h4,h5⟩
   obtain ⟨y,y1,y2,y3⟩ := h3 q (x.1.rn ρ,x.2.rn ρ) (by rw [List.getElem?_map,hx]; rfl)
   exact ⟨y,y1,oO _ _ y2,oO _ _ y3⟩
  | row => exact k.elim
  | loop => exact k.elim
 | loop nt fr ps ca cb st pd =>
  cases b' with
  | loop nt' fr' ps' ca' cb' st' pd' =>
   obtain ⟨⟨rfl,rfl,rfl,rfl,rfl,rfl⟩,k⟩ := k
   obtain ⟨L,h1,h2,h3,h4,h5,h6,h7,h8⟩ := hr
   exact ⟨L,h1,h2,h3,h4,h5,h6,h7,fun t => oO _ _ (by rw [k t]; exact h8 t)⟩
  | row => exact k.elim
  | map => exact k.elim
structure HRn (N : Nat) (ρ : Nat → Nat) (h' h2 : aA) : Prop where
 id : ∀ i,i < N → ρ i = i
 le : N ≤ h2.length
 at_ : ∀ (i : Nat) b,h2[i]? = some (some b) → ∃ b',h'[ρ i]? = some (some b') ∧ BRn ρ b b' ∧ b.bdd h2.length
 inj : ∀ (i j : Nat) b c,i ≠ j → h2[i]? = some (some b) → h2[j]? = some (some c) → ρ i ≠ ρ j
section
variable {P : Program} {w0 : World} {m m' : Emb} {h h' h2 : aA} {w w' : World} {ρ : Nat → Nat}
theorem Sim.rn {N : Nat} (s : Sim w0 m h' w) (k : HRn N ρ h' h2) : Sim w0 (m.rn ρ) h2 w :=
 ⟨s.size,s.old,fun i b hi => by
  obtain ⟨b',h1,h3,h4⟩ := k.at_ i b hi
  obtain ⟨g1,g2,_⟩ := s.at_ _ _ h1
  exact ⟨g1,BR_rn h3 g2,h4⟩,fun i j b c hij hi hj => by
  obtain ⟨b',h1,_,_⟩ := k.at_ i b hi
  obtain ⟨c',h3,_,_⟩ := k.at_ j c hj
  exact s.inj _ _ _ _ (k.inj i j b c hij hi hj) h1 h3⟩
theorem bP.rn {N Z : Nat} (s : bP Z w0 m m' h h' w w') (k : HRn N ρ h' h2) (hz : Z ≤ N) : bP Z w0 m (m'.rn ρ) h h2 w w' :=
 ⟨s.sim.rn k,fun i hi => by
  have := k.id i (by omega)
  obtain ⟨e1,e2,e3⟩ := s.ext i hi
  simp only [Emb.rn,this]
  exact ⟨e1,e2,e3⟩,s.mods,Nat.le_trans hz k.le,fun i b hi hlt => by
  obtain ⟨b',h1,_,_⟩ := k.at_ i b hi
  exact s.roots (ρ i) b' h1 hlt⟩
theorem aZ.rn (s : aZ w0 m m' h h' w w') (k : HRn h.length ρ h' h2) : aZ w0 m (m'.rn ρ) h h2 w w' := ((s.toZ (Nat.le_refl _)).rn k (Nat.le_refl _)).toS
theorem ACall.rn {f : FuncId} {args : List AV} {K : AV → aA → Prop} (e : ACall P w0 f args h fun v h' => ∃ ρ v2 h2,HRn h.length ρ h' h2 ∧ v2.rn ρ = v ∧ v2.bdd h2.length ∧ K v2 h2) : ACall P w0 f args h K :=
 ⟨e.1,fun m w vs s hv hb => (e.2 m w vs s hv hb).mono fun en w' ⟨v',e1,m',v,h',st,hvr,_,ρ,v2,h2,k,hv2,hb2,hk⟩ => by
  subst hv2
  exact ⟨v',e1,m'.rn ρ,v2,h2,st.rn k,oO _ _ hvr,hb2,hk⟩⟩
theorem EvM.rn {r : Option Nat} {nt Z : Nat} {mc : MC} {fr : Fr} {Q : Exit → Fr → aA → Prop}
 (e : EvM P w0 r nt Z mc fr h fun e fr' h' => ∃ N ρ fr2 h2,Z ≤ N ∧ HRn N ρ h' h2 ∧ (∀ t,(Fr.get fr2 t).rn ρ = Fr.get fr' t ∨ Fr.get fr2 t = .undef) ∧ (∀ t,(Fr.get fr2 t).bdd h2.length) ∧ Q e fr2 h2) : EvM P w0 r nt Z mc fr h Q := fun c hc m a w B l sa =>
 wpIn_mono (e c hc m a w B l sa) fun x a' w' ⟨m',fr',h',s,sa',N,ρ,fr2,h2,hz,k,hf,hb,q⟩ => by
  refine ⟨m'.rn ρ,fr2,h2,s.rn k hz,⟨sa'.sim.rn k,fun t => ⟨?_,hb t⟩,sa'.size,sa'.low,?_,?_,sa'.inr,Nat.le_trans hz k.le⟩,q⟩
  · rcases hf t with h1 | h1
    · exact oO _ _ (by rw [h1]; exact (sa'.frame t).1)
    · rw [h1]; simp only [VR]
  · obtain ⟨rs,h1,h3,h4⟩ := sa'.marks
    refine ⟨rs,h1,h3,fun q hq => ?_⟩
    obtain ⟨g1,g2,g3⟩ := h4 q hq
    exact ⟨g1,g2,fun i b hi => by
     obtain ⟨b',k1,_,_⟩ := k.at_ i b hi
     exact g3 _ _ k1⟩
  · rw [sa'.rnd]
    cases hr : r with
    | none => rfl
    | some i => simp only [Option.map_some,Emb.rn]; rw [k.id i (Nat.lt_of_lt_of_le (sa'.inr i hr) hz)]
theorem ACall.frame0 {f : FuncId} {x : AV} (hx : ∀ N,x.bdd N) (hv : ∀ (m m' : Emb) v,VR m x v → VR m' x v) (e : ACall P w0 f [] [] fun v _ => v = x) : bQ P w0 f [] h x h :=
 ⟨e.1,fun m w vs s hvs _ => (e.2 m w vs ⟨s.size,s.old,fun i b hi => by simp at hi,fun i j b c _ hi => by simp at hi⟩ hvs trivial).mono fun en w' ⟨v',e1,m',v,h',st,hvr,_,hk⟩ => by
  subst hk
  have hs : ∀ c,c < w.heap.size → w'.heap[c]? = w.heap[c]? := fun c hc => st.mods.same c hc fun i b hi => by simp at hi
  refine ⟨v',e1,m,v,h,⟨⟨st.sim.size,st.sim.old,fun i b hi => ?_,s.inj⟩,.refl _ _,⟨st.mods.size,fun c hc _ => hs c hc,st.mods.os,st.mods.tape,st.mods.output⟩,Nat.le_refl _,fun i b hi _ => ⟨i,b,hi,rfl⟩⟩,hv _ _ _ hvr,hx _,rfl,rfl⟩
  obtain ⟨g1,g2,g3⟩ := s.at_ i b hi
  exact ⟨g1,by rw [hs _ (s.lt hi)]; exact g2,g3⟩⟩
def aEy (o : Option (AV × aA)) : Bool := match o with
 | some (.bool true,_) => true
 | _ => false
theorem aAn {V : Ev} (ok : vY P V) {n f : Nat} (e : aEy (evC V n [] (.fn (.func f) [] []) [] []) = true) : bQ P V.w0 f [] h (.bool true) h := by
 unfold aEy at e
 split at e
 · rename_i h' he
   have := (tQ ok n _ _ _ _ _ _ he).1 EOK.nil
   exact ACall.frame0 (fun N => by simp [AV.bdd]) (fun m m' v k => by simpa [VR] using k) (ACall.mono this fun v2 h2 q => q.1)
 · cases e
end
end Go.Proofs.Ab
namespace Go.Proofs.Ab
open Go
open Go.ChangeMaps (setBlock)
section
variable {P : Program} {w0 : World} {r l : Option Nat} {nt Z : Nat} {B : Bs} {m m' : Emb} {fr : Fr} {h h' : aA} {a : Act} {w w' : World}
theorem mQ {ops : Array Oper} {o : Oper} (hg : o.guard = none) (hdef : ∀ c,o.op ≠ .defer c) (sa : SA w0 r l nt Z B m fr h a w) {v' : Value}
 (hr : (execOp a.eval o).run P w = .ok (.value v') w') {Q : Exit → Act → World → Prop} {next : Act → World → Prop}
 (hn : next (a.put o.dst v') w') :
 if Region.wanted o (yielded ops a.tmps) then o.wpIn (Wd l) 0 P a w next Q else (∀ f,o.about P w a.eval = some f → (Wd l).fn f) ∧ next (a.put o.dst undef) w := by
 have hgc : oA ops o.guard = some none := by rw [hg]; rfl
 rw [dP hgc sa.frame (b := true) rfl]
 refine ⟨fun _ _ => trivial,?_⟩
 have hsem : o.semAt (Wd l).round a.eval = execOp a.eval o := by
  cases l with
  | none => rfl
  | some l =>
   simp only [Oper.semAt,Wd]
   split
   · rename_i c hc; exact absurd hc (hdef _)
   · rfl
 rw [hsem,hr]
 exact hn
def Un (m : Emb) (h : aA) (q : Nat) : Prop := ∀ (i : Nat) b,h[i]? = some (some b) → m.blk i ≠ q
theorem Un.step {q : Nat} (u : Un m h q) (s : bP Z w0 m m' h h' w w') (hq : q < w.heap.size) : Un m' h' q := fun i b hi e => by
 obtain ⟨j,c,hj,e'⟩ := s.roots i b hi (by rw [e]; exact hq)
 exact u j c hj (e'.trans e)
theorem SA.un {q : Nat} {o : Obj} (sa : SA w0 r l nt Z B m fr h a w) (u : Un m h q) (hq : w0.heap.size ≤ q) (hB : ∀ x,w.heap[q]? ≠ some (.deferred x)) : SA w0 r l nt Z B m fr h a (setBlock w q o) := by
 have hne : ∀ c,c ≠ q → (setBlock w q o).heap[c]? = w.heap[c]? := fun c hc => cE (w := w) (o := o) hc
 refine ⟨⟨by simp [setBlock]; exact sa.sim.size,fun c hc => by rw [hne c (by omega)]; exact sa.sim.old c hc,fun i b hi => ?_,sa.sim.inj⟩,sa.frame,sa.size,by simp [setBlock]; exact sa.low,?_,sa.rnd,sa.inr,sa.hz⟩
 · obtain ⟨g1,g2,g3⟩ := sa.sim.at_ i b hi
   exact ⟨g1,by rw [hne _ (u i b hi)]; exact g2,g3⟩
 · obtain ⟨rs,g1,g2,g3⟩ := sa.marks
   exact ⟨rs,g1,g2,fun x hx => by
    obtain ⟨k1,k2,k3⟩ := g3 x hx
    exact ⟨k1,by rw [hne x (fun e => by subst e; exact hB _ k2)]; exact k2,k3⟩⟩
theorem SA.drew (sa : SA w0 r l nt Z B m fr h a w) : SA w0 r l nt Z B m fr h a w.drew :=
 ⟨⟨sa.sim.size,sa.sim.old,sa.sim.at_,sa.sim.inj⟩,sa.frame,sa.size,sa.low,sa.marks,sa.rnd,sa.inr,sa.hz⟩
theorem bP.un {q : Nat} {o : Obj} (s : bP Z w0 m m' h h' w w') (u : Un m' h' q) (hq : w.heap.size ≤ q) (hw : w0.heap.size ≤ w.heap.size) : bP Z w0 m m' h h' w (setBlock w' q o) := by
 have hne : ∀ c,c ≠ q → (setBlock w' q o).heap[c]? = w'.heap[c]? := fun c hc => cE (w := w') (o := o) hc
 refine ⟨⟨by simp [setBlock]; exact s.sim.size,fun c hc => by rw [hne c (by omega)]; exact s.sim.old c hc,fun i b hi => ?_,s.sim.inj⟩,s.ext,⟨by simp [setBlock]; exact s.mods.size,fun c hc hn => by rw [hne c (by omega)]; exact s.mods.same c hc hn,s.mods.os,s.mods.tape,s.mods.output⟩,s.le,s.roots⟩
 obtain ⟨g1,g2,g3⟩ := s.sim.at_ i b hi
 exact ⟨g1,by rw [hne _ (u i b hi)]; exact g2,g3⟩
theorem bP.drew (s : bP Z w0 m m' h h' w w') : bP Z w0 m m' h h' w w'.drew :=
 ⟨⟨s.sim.size,s.sim.old,s.sim.at_,s.sim.inj⟩,s.ext,⟨s.mods.size,s.mods.same,s.mods.os,s.mods.tape,s.mods.output⟩,s.le,s.roots⟩
theorem SA.put1 (sa : SA w0 r l nt Z B m fr h a w) {d : Option Nat} (hd : nC nt d = true) {v : AV} {v' : Value} (hv : VR m v v') (hb : v.bdd h.length) : SA w0 r l nt Z B m (fr.put d v) h (a.put d v') w :=
 sa.put hd (aZ.refl sa.sim) hv hb
theorem SA.forget (sa : SA w0 r l nt Z B m fr h a w) (i : Nat) : SA w0 r l nt Z B m fr (h.set i none) a w :=
 ⟨sa.sim.weaken (by simp) (fB (k := h) (i := i)),by rw [List.length_set]; exact sa.frame,sa.size,sa.low,by
  obtain ⟨rs,g1,g2,g3⟩ := sa.marks
  exact ⟨rs,g1,g2,fun x hx => ⟨(g3 x hx).1,(g3 x hx).2.1,fun j b hj => (g3 x hx).2.2 j b (fB j b hj)⟩⟩,sa.rnd,sa.inr,by rw [List.length_set]; exact sa.hz⟩
theorem bP.forget (s : bP Z w0 m m' h h' w w') (i : Nat) : bP Z w0 m m' h (h'.set i none) w w' :=
 ⟨s.sim.weaken (by simp) (fB (k := h') (i := i)),s.ext,s.mods,by rw [List.length_set]; exact s.le,fun j b hj => s.roots j b (fB j b hj)⟩
end
def kA0 (tM : TypeId) : List Oper := [{ dst := some 4, op := .load tM (.tmp 1), type := tM, pos := "iter.go:27", after := #[], guard := none }, { dst := some 5, op := .range tM (.tmp 4), type := 0, pos := "iter.go:27", after := #[⟨0, .data⟩], guard := none }]
def kA1 (tB : TypeId) : List Oper := [{ dst := some 6, op := .next (.tmp 5) false, type := 0, pos := "iter.go:27", after := #[], guard := none }, { dst := some 7, op := .extract (.tmp 6) 0, type := tB, pos := "iter.go:27", after := #[⟨0, .data⟩], guard := none }]
def kA2 (tI : TypeId) : List Oper := [{ dst := some 8, op := .entry (.tmp 5), type := 0, pos := "iter.go:27", after := #[], guard := none }, { dst := some 9, op := .extract (.tmp 8) 0, type := tI, pos := "iter.go:27", after := #[⟨0, .data⟩], guard := none }, { dst := some 3, op := .assign (.tmp 9), type := tI, pos := "iter.go:27", after := #[⟨1, .data⟩, ⟨0, .phase⟩, ⟨1, .phase⟩], guard := none }]
def kS3 (tF tI tB : TypeId) : Code := .seq (.region 3 #[{ dst := some 10, op := .move (.tmp 0), type := tF, pos := "iter.go:28", after := #[], guard := none }, { dst := some 11, op := .move (.tmp 3), type := tI, pos := "iter.go:28", after := #[], guard := none }, { dst := some 12, op := .call { callee := .value (.tmp 10), args := #[.tmp 11], argTypes := #[tI] }, type := tB, pos := "iter.go:28", after := #[⟨0, .data⟩, ⟨1, .data⟩], guard := none }, { dst := some 13, op := .unOp .not tB (.tmp 12), type := tB, pos := "iter.go:28", after := #[⟨2, .data⟩], guard := none }] false) (.cond (.tmp 13) .ret .skip)
def kL (tF tI tB : TypeId) : Code := .seq (.region 1 (kA1 tB).toArray false) (.seq (.cond (.tmp 7) .skip (.exit 0)) (.block 1 (.seq (.region 2 (kA2 tI).toArray false) (kS3 tF tI tB))))
def kCode (tM tF tI tB : TypeId) : Code := .seq (.region 0 (kA0 tM).toArray false) (.block 0 (.loop (kL tF tI tB)))
def kM3 : MC := .seq (.reg [.op (some 10) none (.mov (.t 0)),.op (some 11) none (.mov (.t 3)),.call (some 12) none (.t 10) [.t 11],.op (some 13) none (.un .not (.t 12))]) (.cond (.t 13) .ret .skip)
def cJ (e : MapEntry) : AV := match e.key with
 | .int k n => .int k n
 | _ => .undef
def mW (ea : Array MapEntry) (seen : Array Nat) : List AV := (leftOf ea seen).toList.map cJ
theorem sX : ∀ {l : List MapEntry} {e : MapEntry},(l.map (·.born)).Nodup → e ∈ l → l.Perm (e :: l.filter fun x => !(x.born == e.born))
 | [],e,_,he => by cases he
 | x :: l,e,hn,he => by
  simp only [List.map_cons,List.nodup_cons] at hn
  rcases List.mem_cons.1 he with rfl | he
  · have : l.filter (fun x => !(x.born == e.born)) = l := List.filter_eq_self.2 fun y hy => by
     have : y.born ≠ e.born := fun h => hn.1 (h ▸ List.mem_map.2 ⟨y,hy,rfl⟩)
     simpa using this
    simp [this]
  · have hx : x.born ≠ e.born := fun h => hn.1 (h ▸ List.mem_map.2 ⟨e,he,rfl⟩)
    rw [List.filter_cons,if_pos (by simpa using hx)]
    exact ((sX hn.2 he).cons x).trans (List.Perm.swap _ _ _)
theorem aCy {ea : Array MapEntry} {seen : Array Nat} {e : MapEntry} (hn : (ea.toList.map (·.born)).Nodup) (he : e ∈ (leftOf ea seen).toList) : (mW ea seen).Perm (cJ e :: mW ea (seen.push e.born)) := by
 have e1 : (leftOf ea (seen.push e.born)).toList = (leftOf ea seen).toList.filter fun x => !(x.born == e.born) := by
  simp only [leftOf,Array.toList_filter,List.filter_filter]
  refine List.filter_congr fun x _ => ?_
  rw [contains_push]
  cases seen.contains x.born <;> cases (x.born == e.born) <;> rfl
 have hn2 : ((leftOf ea seen).toList.map (·.born)).Nodup := by
  simp only [leftOf,Array.toList_filter]
  exact hn.sublist ((List.filter_sublist).map _)
 have := (sX hn2 he).map cJ
 simp only [mW]
 rw [e1]; exact this
section
variable {P : Program} {w0 : World} {l : Option Nat} {Z : Nat} {B : Bs} {m m1 m2 : Emb} {fr : Fr} {h G G2 : aA} {a : Act} {w w1 w2 : World} {ea : Array MapEntry} {ck bm r : Nat} {seen : Array Nat}
structure WF (ea : Array MapEntry) (ck bm r : Nat) (m : Emb) (G : aA) (w : World) (seen : Array Nat) : Prop where
 it : w.heap[r]? = some (.mapIter (some bm) ck seen ck)
 mp : w.heap[bm]? = some (.map ea ck)
 ur : Un m G r
 ub : Un m G bm
theorem mZ {q : Nat} {o : Obj} (e : w.heap[q]? = some o) : q < w.heap.size := by
 rcases Nat.lt_or_ge q w.heap.size with hl | hl
 · exact hl
 · rw [Array.getElem?_eq_none hl] at e; cases e
theorem WF.step (k : WF ea ck bm r m1 G w1 seen) (s : bP Z w0 m1 m2 G G2 w1 w2) : WF ea ck bm r m2 G2 w2 seen :=
 ⟨by rw [s.mods.same r (mZ k.it) k.ur]; exact k.it,by rw [s.mods.same bm (mZ k.mp) k.ub]; exact k.mp,k.ur.step s (mZ k.it),k.ub.step s (mZ k.mp)⟩
structure KH (w0 : World) (l : Option Nat) (Z : Nat) (B : Bs) (m : Emb) (h : aA) (w : World) (ea : Array MapEntry) (ck bm r : Nat) (y : AV) (I : List AV → aA → Prop) (m1 : Emb) (fr : Fr) (G : aA) (a : Act) (w1 : World) (seen : Array Nat) (p : List AV) : Prop where
 st : bP Z w0 m m1 h G w w1
 sa : SA w0 none l 14 Z B m1 fr G a w1
 wf : WF ea ck bm r m1 G w1 seen
 g0 : fr.get 0 = y
 g5 : fr.get 5 = .ptr (.old ⟨r,0,none⟩)
 pp : (p ++ mW ea seen).Perm (ea.toList.map cJ)
 i : I p G
def KQ (w0 : World) (l : Option Nat) (Z : Nat) (B : Bs) (m : Emb) (h : aA) (w : World) (ea : Array MapEntry) (ck bm r : Nat) (I : List AV → aA → Prop) : Exit → Act → World → Prop :=
 fun e a' w' => e = .exit 0 ∧ ∃ m' fr' G',bP Z w0 m m' h G' w w' ∧ SA w0 none l 14 Z B m' fr' G' a' w' ∧ ∃ p,p.Perm (ea.toList.map cJ) ∧ I p G' ∧ ∃ seen,WF ea ck bm r m' G' w' seen
variable {y : AV} {I : List AV → aA → Prop} {tM tF tI tB : TypeId}
structure KOk (P : Program) (tM tF tI tB : TypeId) : Prop where
 c0 : (kA0 tM)[0]?.bind (cN P 14 (kA0 tM).toArray) = some (.op (some 4) none (.load (.t 1) none))
 c1 : (kA1 tB)[1]?.bind (cN P 14 (kA1 tB).toArray) = some (.op (some 7) none (.ext (.t 6) 0))
 c2 : (kA2 tI)[1]?.bind (cN P 14 (kA2 tI).toArray) = some (.op (some 9) none (.ext (.t 8) 0))
 c3 : (kA2 tI)[2]?.bind (cN P 14 (kA2 tI).toArray) = some (.op (some 3) none (.mov (.t 9)))
 c4 : aP P 14 (kS3 tF tI tB) = some kM3
 tm : ∃ k e,P.underlying tM = some (.map k e)
theorem ev_5 {N : Nat} (hf : FR m N fr a.tmps) (g5 : fr.get 5 = .ptr (.old ⟨r,0,none⟩)) : a.eval (.tmp 5) = .pointer (some ⟨r,0,none⟩) := by
 have := (hf 5).1
 rw [g5] at this
 simp only [VR,Emb.pl] at this
 exact this
theorem SA.recall {nt : Nat} {rr : Option Nat} {i : Nat} {b : Blk} (sa : SA w0 rr l nt Z B m fr G a w) (hi : i < G.length) (h1 : w0.heap.size ≤ m.blk i) (h2 : BR m (m.base i) (m.sz i) b (w.heap[m.blk i]?)) (h3 : b.bdd G.length) (hu : Un m G (m.blk i)) (hd : ∀ x,w.heap[m.blk i]? ≠ some (.deferred x)) : SA w0 rr l nt Z B m fr (G.set i (some b)) a w := by
 refine ⟨⟨sa.sim.size,sa.sim.old,fun j c hj => ?_,fun j k c d hjk hj hk => ?_⟩,by rw [List.length_set]; exact sa.frame,sa.size,sa.low,?_,sa.rnd,sa.inr,by rw [List.length_set]; exact sa.hz⟩
 · by_cases e : i = j
   · subst e
     rw [qF hi] at hj
     cases hj
     exact ⟨h1,h2,by rw [List.length_set]; exact h3⟩
   · rw [qB e] at hj
     rw [List.length_set]; exact sa.sim.at_ j c hj
 · by_cases e : i = j
   · subst e
     rw [qB hjk] at hk
     exact fun q => hu k d hk q.symm
   · rw [qB e] at hj
     by_cases e2 : i = k
     · subst e2; exact fun q => hu j c hj q
     · rw [qB e2] at hk
       exact sa.sim.inj j k c d hjk hj hk
 · obtain ⟨rs,g1,g2,g3⟩ := sa.marks
   refine ⟨rs,g1,g2,fun x hx => ⟨(g3 x hx).1,(g3 x hx).2.1,fun j c hj => ?_⟩⟩
   by_cases e : i = j
   · subst e
     exact fun q => hd (some []) (by rw [q]; exact (g3 x hx).2.1)
   · rw [qB e] at hj
     exact (g3 x hx).2.2 j c hj
theorem bP.recall {i : Nat} {b : Blk} {fr : Fr} {rr : Option Nat} {nt : Nat} (s : bP Z w0 m1 m h G w1 w) (sa : SA w0 rr l nt Z B m fr (G.set i (some b)) a w) (hi : i < G.length) (hr : ∃ (j : Nat) (c : Blk),h[j]? = some (some c) ∧ m1.blk j = m.blk i) : bP Z w0 m1 m h (G.set i (some b)) w1 w :=
 ⟨sa.sim,s.ext,s.mods,by rw [List.length_set]; exact s.le,fun j c hj hlt => by
  by_cases e : i = j
  · subst e; exact hr
  · rw [qB e] at hj
    exact s.roots j c hj hlt⟩
theorem aEx (ok : KOk P tM tF tI tB) (hw : w0.heap.size ≤ w.heap.size) (hr : w.heap.size ≤ r) (hn : (ea.toList.map (·.born)).Nodup) (hb : ∀ x ∈ ea.toList,x.born < ck) (hk : ∀ x ∈ ea.toList,∃ k n,x.key = .int k n)
 (hI : ∀ p k G,(∃ q,(p ++ k :: q).Perm (ea.toList.map cJ)) → I p G → bD P w0 y [k] G fun v G' => v = .bool true ∧ I (p ++ [k]) G') :
 ∀ (n : Nat) (seen : Array Nat) (p : List AV) (m1 : Emb) (fr : Fr) (G : aA) (a : Act) (w1 : World),(leftOf ea seen).size = n → KH w0 l Z B m h w ea ck bm r y I m1 fr G a w1 seen p → oQ (Wd l) P (kL tF tI tB) (KQ w0 l Z B m h w ea ck bm r I) a w1 := by
 intro n
 induction n with
 | zero =>
  intro seen p m1 fr G a w1 hs kh
  refine lQ (wpIn_seq (wpIn_region_lit ?_))
  change wpListIn _ _ P (kA1 tB).toArray _ [_,_] _ _
  simp only [wpListIn]
  rcases run_next_at (P := P) w1 0 r bm ck ck seen ea ck kh.wf.it kh.wf.mp hb (Nat.le_refl _) with ⟨_,hnx⟩ | ⟨e,he,_⟩
  · refine mQ (P := P) (l := l) (v' := .tuple #[.bool false]) (w' := w1) rfl (fun c => by simp) kh.sa (by simp [execOp,ev_5 kh.sa.frame kh.g5,hnx]) ?_
    refine fG (P := P) (ops := (kA1 tB).toArray) (K := fun f g => f = (7,.bool false) :: (6,.tup [.bool false]) :: fr ∧ g = G) ok.c1 (kh.sa.put1 (v := .tup [.bool false]) rfl ⟨_,rfl,_,_,rfl,rfl,rfl⟩ ⟨trivial,trivial⟩) ⟨_,_,rfl,rfl,rfl⟩ fun m2 f2 g2 a2 w2 s2 sa2 ⟨e1,e2⟩ _ => ?_
    subst e1; subst e2
    refine wpIn_seq (wpIn_cond_false ((sa2.frame 7).1) (wpIn_exit ⟨rfl,m2,_,_,kh.st.trans (s2.toZ kh.sa.hz),sa2,p,?_,kh.i,_,kh.wf.step (s2.toZ kh.sa.hz)⟩))
    have : mW ea seen = [] := by
     have : (leftOf ea seen).toList = [] := by rw [← List.length_eq_zero_iff,Array.length_toList]; exact hs
     simp [mW,this]
    have hp := kh.pp
    rwa [this,List.append_nil] at hp
  · have : (leftOf ea seen).toList = [] := by
     rw [← List.length_eq_zero_iff,Array.length_toList]; exact hs
    rw [this] at he; cases he
 | succ n ih =>
  intro seen p m1 fr G a w1 hs kh
  refine lQ (wpIn_seq (wpIn_region_lit ?_))
  change wpListIn _ _ P (kA1 tB).toArray _ [_,_] _ _
  simp only [wpListIn]
  rcases run_next_at (P := P) w1 0 r bm ck ck seen ea ck kh.wf.it kh.wf.mp hb (Nat.le_refl _) with ⟨h0,_⟩ | ⟨e,he,wd,hwd,hnx⟩
  · omega
  have hmem := (mem_left he).1
  obtain ⟨kk,kn,hkey⟩ := hk e hmem
  have hAV : cJ e = .int kk kn := by simp [cJ,hkey]
  have hsa : SA w0 none l 14 Z B m1 fr G a wd := by
   rcases hwd with rfl | rfl
   · exact kh.sa
   · exact kh.sa.drew
  have hst : bP Z w0 m m1 h G w wd := by
   rcases hwd with rfl | rfl
   · exact kh.st
   · exact kh.st.drew
  have hit : wd.heap[r]? = some (.mapIter (some bm) ck seen ck) := by rcases hwd with rfl | rfl <;> exact kh.wf.it
  have hmp : wd.heap[bm]? = some (.map ea ck) := by rcases hwd with rfl | rfl <;> exact kh.wf.mp
  have hbr : bm ≠ r := fun e => by rw [e,hit] at hmp; cases hmp
  have sa1 := hsa.un (o := .mapIter (some bm) ck (seen.push e.born) ck) kh.wf.ur (by omega) (fun x hx => by rw [hit] at hx; cases hx)
  have st1 := hst.un (o := .mapIter (some bm) ck (seen.push e.born) ck) kh.wf.ur hr hw
  have wf1 : WF ea ck bm r m1 G (setBlock wd r (.mapIter (some bm) ck (seen.push e.born) ck)) (seen.push e.born) :=
   ⟨kI (mZ hit),(cE hbr).trans hmp,kh.wf.ur,kh.wf.ub⟩
  refine mQ (P := P) (l := l) (v' := .tuple #[.bool true,e.key,e.val]) (w' := setBlock wd r (.mapIter (some bm) ck (seen.push e.born) ck)) rfl (fun c => by simp) kh.sa (by simp [execOp,ev_5 kh.sa.frame kh.g5,hnx]) ?_
  refine fG (P := P) (ops := (kA1 tB).toArray) (K := fun f g => f = (7,.bool true) :: (6,.tup [.bool true,cJ e,.undef]) :: fr ∧ g = G) ok.c1 (sa1.put1 (v := .tup [.bool true,cJ e,.undef]) rfl ⟨_,rfl,_,_,rfl,rfl,_,_,rfl,by rw [hAV]; exact hkey,_,_,rfl,trivial,rfl⟩ ⟨trivial,by rw [hAV]; trivial,trivial,trivial⟩) ⟨_,_,rfl,rfl,rfl⟩ fun m2 f2 g2 a2 w2 s2 sa2 ⟨e1,e2⟩ _ => ?_
  subst e1; subst e2
  have st2 := st1.trans (s2.toZ sa1.hz)
  have wf2 := wf1.step (s2.toZ sa1.hz)
  refine wpIn_seq (wpIn_cond_true ((sa2.frame 7).1) (wpIn_skip (wpIn_block (wpIn_seq (wpIn_region_lit ?_)))))
  change wpListIn _ _ P (kA2 tI).toArray _ [_,_,_] _ _
  simp only [wpListIn]
  refine mQ (P := P) (l := l) (v' := .tuple #[e.key,e.val]) (w' := w2) rfl (fun c => by simp) sa2 (by simp [execOp,ev_5 sa2.frame (show Fr.get (_ :: _ :: fr) 5 = _ from kh.g5),run_entry_at w2 r bm ck seen ea ck e wf2.it wf2.mp hmem hn]) ?_
  refine fG (P := P) (ops := (kA2 tI).toArray) (K := fun f g => f = (9,cJ e) :: (8,.tup [cJ e,.undef]) :: (7,.bool true) :: (6,.tup [.bool true,cJ e,.undef]) :: fr ∧ g = g2) ok.c2 (sa2.put1 (v := .tup [cJ e,.undef]) rfl ⟨_,rfl,_,_,rfl,by rw [hAV]; exact hkey,_,_,rfl,trivial,rfl⟩ ⟨by rw [hAV]; trivial,trivial,trivial⟩) ⟨_,_,rfl,rfl,rfl⟩ fun m3 f3 g3 a3 w3 s3 sa3 ⟨e1,e2⟩ _ => ?_
  subst e1; subst e2
  have st3 := st2.trans (s3.toZ sa2.hz)
  have wf3 := wf2.step (s3.toZ sa2.hz)
  refine fG (P := P) (ops := (kA2 tI).toArray) (K := fun f g => f = (3,cJ e) :: (9,cJ e) :: (8,.tup [cJ e,.undef]) :: (7,.bool true) :: (6,.tup [.bool true,cJ e,.undef]) :: fr ∧ g = g3) ok.c3 sa3 ⟨_,_,rfl,rfl,rfl⟩ fun m4 f4 g4 a4 w4 s4 sa4 ⟨e1,e2⟩ _ => ?_
  subst e1; subst e2
  have st4 := st3.trans (s4.toZ sa3.hz)
  have wf4 := wf3.step (s4.toZ sa3.hz)
  have hlp := aCy hn he
  have hpp : (p ++ cJ e :: mW ea (seen.push e.born)).Perm (ea.toList.map cJ) := (hlp.symm.append_left p).trans kh.pp
  have E3 : EvM P w0 none 14 Z kM3 ((3,cJ e) :: (9,cJ e) :: (8,.tup [cJ e,.undef]) :: (7,.bool true) :: (6,.tup [.bool true,cJ e,.undef]) :: fr) g4 fun x f g => x = .normal ∧ f.get 0 = y ∧ f.get 5 = .ptr (.old ⟨r,0,none⟩) ∧ I (p ++ [cJ e]) g := by
   refine aB7 (aFl ?_)
   show bD P w0 (fr.get 0) [cJ e] g4 _
   rw [kh.g0]
   refine bD.mono (hI p (cJ e) g4 ⟨_,hpp⟩ kh.i) fun v g ⟨e1,hi⟩ => ?_
   subst e1
   exact nK (t := false) rfl (zF ⟨rfl,kh.g0,kh.g5,hi⟩)
  refine wpIn_mono (E3 _ ok.c4 m4 a4 w4 B l sa4) fun x a5 w5 ⟨m5,f5,g5,s5,sa5,q1,q2,q3,q4⟩ => ?_
  subst q1
  have hlen : (leftOf ea (seen.push e.born)).size = n := by
   have := hlp.length_eq
   simp only [mW,List.length_map,Array.length_toList,List.length_cons] at this
   omega
  exact ih (seen.push e.born) (p ++ [cJ e]) m5 f5 g5 a5 w5 hlen ⟨st4.trans s5,sa5,wf4.step s5,q2,q3,by rw [List.append_assoc]; exact hpp,q4⟩
end
end Go.Proofs.Ab
namespace Go.Proofs.Ab
open Go
section
variable {P : Program} {w0 : World} {Z : Nat} {h : aA} {y : AV} {tM tF tI tB : TypeId}
theorem aHf {m : Emb} {es : List (AV × AV)} {ea : Array MapEntry} (hk : ∀ e ∈ es,∃ k n,e.1 = .int k n) (hs : ea.size = es.length) (hv : ∀ (k : Nat) x,es[k]? = some x → ∃ e,ea[k]? = some e ∧ VR m x.1 e.key ∧ VR m x.2 e.val) :
 ea.toList.map cJ = es.map (·.1) ∧ ∀ x ∈ ea.toList,∃ k n,x.key = .int k n := by
 have key : ∀ (k : Nat) x,es[k]? = some x → ∃ e,ea.toList[k]? = some e ∧ cJ e = x.1 ∧ ∃ k n,e.key = .int k n := fun k x hx => by
  obtain ⟨e,h1,h2,_⟩ := hv k x hx
  obtain ⟨kk,n,hkn⟩ := hk x (List.mem_of_getElem? hx)
  rw [hkn] at h2
  simp only [VR] at h2
  exact ⟨e,by simpa using h1,by rw [hkn]; simp [cJ,h2],kk,n,h2⟩
 constructor
 · refine List.ext_getElem (by simpa using hs) fun i h1 h2 => ?_
   rw [List.length_map] at h2
   obtain ⟨e,k1,k2,_⟩ := key i es[i] (qA h2)
   rw [List.getElem_map,List.getElem_map,← k2]
   rw [qA (by simpa using h1)] at k1
   rw [Option.some.inj k1]
 · intro x hx
   obtain ⟨i,hi,rfl⟩ := List.getElem_of_mem hx
   rw [Array.length_toList,hs] at hi
   obtain ⟨e,k1,_,k2⟩ := key i es[i] (qA hi)
   rw [qA (by simpa [hs] using hi)] at k1
   rw [Option.some.inj k1]; exact k2
theorem aAo (ok : KOk P tM tF tI tB) {f : FuncId} (hc : (P.funcs[f]?).bind (·.body) = some (kCode tM tF tI tB)) (hrn : ((P.funcs[f]?).map fun fn => (fn.results.toList.mapM (crv P),fn.ntmps)) = some (some [],14)) (hbd : aC P f = true)
 {p : Pl} {mi : Nat} {es : List (AV × AV)} (hp : rd w0 h p = some (.map mi)) (hm : h[mi]? = some (some (.map es))) (hk : ∀ e ∈ es,∃ k n,e.1 = .int k n) {I : List AV → aA → Prop} (h0 : I [] (h.set mi none))
 (hI : ∀ p k G,(∃ q,(p ++ k :: q).Perm (es.map (·.1))) → I p G → bD P w0 y [k] G fun v G' => v = .bool true ∧ I (p ++ [k]) G') {Q : AV → aA → Prop} (hQ : ∀ p G,p.Perm (es.map (·.1)) → I p G → h.length ≤ G.length → Q (.tup []) (G.set mi (some (.map es)))) : ACall P w0 f [y,.ptr p] h Q := by
 obtain ⟨fn,hfn,hc⟩ := qC.1 hc
 rw [hfn] at hrn
 simp only [Option.map_some,Option.some.injEq,Prod.mk.injEq] at hrn
 obtain ⟨hrs,hnt⟩ := hrn
 refine rV hfn hc hrs hbd (by rw [hnt]; simp) fun hh hbb m a w B l sa => ?_
 rw [hnt] at sa ⊢
 refine wpIn_seq (wpIn_region_lit ?_)
 change wpListIn _ _ P (kA0 tM).toArray _ [_,_] _ _
 simp only [wpListIn]
 refine fG (P := P) (ops := (kA0 tM).toArray) (K := fun f g => f = (4,.map mi) :: (0,y) :: (1,.ptr p) :: [] ∧ g = h) ok.c0 sa ⟨.map mi,h,?_,rfl,rfl⟩ fun m2 f2 g2 a2 w2 s2 sa2 ⟨e1,e2⟩ _ => ?_
 · show ((rdv w0 h p none).bind fun v => some (v,h)) = _
   simp only [rdv,hp,Option.bind_some]
 subst e1; subst e2
 obtain ⟨g1,⟨ea,ck,b1,b2,b3,b4,b5⟩,_⟩ := sa2.sim.at_ mi _ hm
 obtain ⟨tk,te,htm⟩ := ok.tm
 have he4 : a2.eval (.tmp 4) = .map (some (m2.blk mi)) := by
  have := (sa2.frame 4).1
  exact this
 have hrg := run_range_map (P := P) w2 tM tk te (m2.blk mi) ea ck htm b1
 refine mQ (P := P) (l := l) (v' := .pointer (some ⟨w2.heap.size,0,none⟩)) (w' := w2.alloc (.mapIter (some (m2.blk mi)) ck #[] ck)) rfl (fun c => by simp) sa2 (by simp [execOp,he4,hrg]) ?_
 have sj := aZ.junk sa2.sim (.mapIter (some (m2.blk mi)) ck #[] ck)
 have sa3 := (sa2.put (d := some 5) rfl sj (v := .ptr (.old ⟨w2.heap.size,0,none⟩)) (v' := .pointer (some ⟨w2.heap.size,0,none⟩)) rfl trivial).forget mi
 obtain ⟨k1,k2⟩ := aHf hk b2 b3
 have hsz : w0.heap.size ≤ w2.heap.size := sa2.sim.size
 have hbm : m2.blk mi < w2.heap.size := sa2.sim.lt hm
 have kh : KH w0 l g2.length B m g2 w ea ck (m2.blk mi) w2.heap.size y I m2 _ (g2.set mi none) _ _ #[] [] :=
  ⟨(s2.toZ sa.hz).trans ((sj.toZ sa2.hz).forget mi),sa3,⟨heap_alloc_new _ _,by rw [heap_alloc_old _ _ hbm]; exact b1,fun i b hi e => by
   have := sa2.sim.lt (fB i b hi)
   omega,fun i b hi e => by
   by_cases hmi : mi = i
   · subst hmi
     have := aF hi
     rw [List.length_set] at this
     rw [qF this] at hi; cases hi
   · rw [qB hmi] at hi
     exact sa2.sim.inj i mi _ _ (fun e => hmi e.symm) hi hm e⟩,rfl,rfl,by
   have : leftOf ea #[] = ea := by simp [leftOf]
   rw [List.nil_append,mW,this],h0⟩
 refine wpIn_block (pS ((aEx ok (sa.sim.size) (Nat.le_trans s2.mods.size (Nat.le_refl _)) b4 b5 k2 (fun p k G ⟨q,hq⟩ => hI p k G ⟨q,by rw [← k1]; exact hq⟩) _ _ _ _ _ _ _ _ rfl kh).mono fun e a' w' ⟨q1,m',fr',G',q2,q3,p',q4,q5,seen,q6⟩ => ?_))
 subst q1
 have hlt := aF hm
 have hGl : g2.length ≤ G'.length := q2.le
 have hml : mi < G'.length := Nat.lt_of_lt_of_le hlt hGl
 have hext : Ext m2 m' g2.length := fun i hi => ⟨(q2.ext i hi).1.trans (s2.ext i hi).1.symm,(q2.ext i hi).2.1.trans (s2.ext i hi).2.1.symm,(q2.ext i hi).2.2.trans (s2.ext i hi).2.2.symm⟩
 have ext2 := hext mi hlt
 · have hmp : w'.heap[m'.blk mi]? = some (.map ea ck) := by rw [ext2.1]; exact q6.mp
   have hbd := (sa2.sim.at_ mi _ hm).2.2
   have q7 := q3.recall (i := mi) (b := .map es) hml (by rw [ext2.1]; exact g1) (by
    rw [hmp]
    exact ⟨ea,ck,rfl,b2,fun k x hx => by
     obtain ⟨e,c1,c2,c3⟩ := b3 k x hx
     have hb := hbd x (List.mem_of_getElem? hx)
     exact ⟨e,c1,dO hext x.1 e.key hb.1 c2,dO hext x.2 e.val hb.2 c3⟩,b4,b5⟩) (Blk.bdd_mono hGl hbd) (by rw [ext2.1]; exact q6.ub) (fun x hx => by rw [hmp] at hx; cases hx)
   exact ⟨m',fr',G'.set mi (some (.map es)),q2.recall q7 hml ⟨mi,_,hm,by rw [ext2.1]; exact (s2.ext mi hlt).1.symm⟩,q7,.inl rfl,.tup [],rfl,hQ p' G' (by rw [← k1]; exact q4) q5 hGl⟩
end
end Go.Proofs.Ab

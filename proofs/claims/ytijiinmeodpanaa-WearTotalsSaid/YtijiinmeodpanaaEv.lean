/- The own layer under the proofs of this seat, part Ev: what calls of the program come to on an abstract heap. No condition. -/
import Derived.Test.YtijiinmeodpanaaH
set_option linter.unusedSimpArgs false
set_option linter.unusedVariables false
namespace Go.Proofs.Ab
open Go
noncomputable section
inductive XT (α : Type) where
 | e
 | n (v : Option α) (l r : XT α)
def tget {α : Type} (t : XT α) : Nat → Option α := @XT.rec α (fun _ => Nat → Option α) (fun _ => none)
 (fun v _ _ il ir j => @Bool.rec (fun _ => Option α) (@Bool.rec (fun _ => Option α) (ir (Nat.div j 2)) (il (Nat.div j 2)) (Nat.beq (Nat.mod j 2) 0)) v (Nat.beq j 1)) t
def kA (t : XT Blk) : Nat → Option Blk := @XT.rec Blk (fun _ => Nat → Option Blk) (fun _ => none)
 (fun v _ _ il ir j => @Bool.rec (fun _ => Option Blk) (@Bool.rec (fun _ => Option Blk) (ir (Nat.div j 2)) (il (Nat.div j 2)) (Nat.beq (Nat.mod j 2) 0)) v (Nat.beq j 1)) t
def tmk (f : Nat) : Nat → Option Blk → XT Blk := @Nat.rec (fun _ => Nat → Option Blk → XT Blk) (fun _ b => .n b .e .e)
 (fun _ ih j b => @Bool.rec (fun _ => XT Blk) (@Bool.rec (fun _ => XT Blk) (.n none .e (ih (Nat.div j 2) b)) (.n none (ih (Nat.div j 2) b) .e) (Nat.beq (Nat.mod j 2) 0)) (.n b .e .e) (Nat.beq j 1)) f
def rY (t : XT Blk) : Nat → Option Blk → XT Blk := @XT.rec Blk (fun _ => Nat → Option Blk → XT Blk) (fun j b => tmk j j b)
 (fun v l r il ir j b => @Bool.rec (fun _ => XT Blk) (@Bool.rec (fun _ => XT Blk) (.n v l (ir (Nat.div j 2) b)) (.n v (il (Nat.div j 2) b) r) (Nat.beq (Nat.mod j 2) 0)) (.n b l r) (Nat.beq j 1)) t
structure XH where
 n : Nat
 t : XT Blk
def XH.toH (x : XH) : aA := (List.range x.n).map fun i => kA x.t (i + 1)
def XH.push (x : XH) (b : Blk) : XH := ⟨Nat.add x.n 1,rY x.t (Nat.add x.n 1) (some b)⟩
def XH.put (x : XH) (i : Nat) (b : Option Blk) : XH := ⟨x.n,rY x.t (Nat.add i 1) b⟩
def XH.at_ (x : XH) (i : Nat) : Option Blk := @Bool.rec (fun _ => Option Blk) none (kA x.t (Nat.add i 1)) (Nat.ble (Nat.add i 1) x.n)
def rowBX (b : Option Blk) : Option (List AV) := @Option.rec Blk (fun _ => Option (List AV)) none (fun b => @Blk.rec (fun _ => Option (List AV)) (fun c => some c) (fun _ => none) (fun _ _ _ _ _ _ _ => none) b) b
def mapB_ (b : Option Blk) : Option (List (AV × AV)) := @Option.rec Blk (fun _ => Option (List (AV × AV))) none (fun b => @Blk.rec (fun _ => Option (List (AV × AV))) (fun _ => none) (fun c => some c) (fun _ _ _ _ _ _ _ => none) b) b
def rW (x : XH) (i : Nat) : Option (List AV) := rowBX (x.at_ i)
def xmap (x : XH) (i : Nat) : Option (List (AV × AV)) := mapB_ (x.at_ i)
abbrev XR := Option (AV × XH)
abbrev XA := Option AV
def lY (fr : Fr) : Nat → AV := @List.rec (Nat × AV) (fun _ => Nat → AV) (fun _ => AV.undef) (fun p _ ih t => @Bool.rec (fun _ => AV) (ih t) p.2 (Nat.beq t p.1)) fr
def oev (o : Opd) : Fr → AV := @Opd.rec (fun _ => Fr → AV) (fun n fr => lY fr n) (fun v _ => v) o
def evs (l : List Opd) : Fr → List AV := @List.rec Opd (fun _ => Fr → List AV) (fun _ => []) (fun o _ ih fr => oev o fr :: ih fr) l
def i64P (k : IntKind) : Int → Option Int := @IntKind.rec (fun _ => Int → Option Int) (fun _ => none) (fun _ => none) (fun _ => none) (fun n => some n) (fun _ => none) (fun _ => none) (fun _ => none) (fun _ => none) k
def jO (v : AV) : Option Int := @AV.rec (fun _ => Option Int) (fun _ => PUnit) (none) (fun k n => i64P k n) (fun _ => none) (fun _ => none) (fun _ _ => none) (fun _ _ => none) (fun _ => none) (none) (fun _ _ _ _ => none) (none) (fun _ => none) (none) (fun _ _ _ _ _ => none) (fun _ => none) (none) (fun _ _ _ => none) (none) PUnit.unit (fun _ _ _ _ => PUnit.unit) v
def dG (v : AV) : Option Bool := @AV.rec (fun _ => Option Bool) (fun _ => PUnit) (none) (fun _ _ => none) (fun b => some b) (fun _ => none) (fun _ _ => none) (fun _ _ => none) (fun _ => none) (none) (fun _ _ _ _ => none) (none) (fun _ => none) (none) (fun _ _ _ _ _ => none) (fun _ => none) (none) (fun _ _ _ => none) (none) PUnit.unit (fun _ _ _ _ => PUnit.unit) v
def gU (v : AV) : Option Pl := @AV.rec (fun _ => Option Pl) (fun _ => PUnit) (none) (fun _ _ => none) (fun _ => none) (fun _ => none) (fun _ _ => none) (fun _ _ => none) (fun p => some p) (none) (fun _ _ _ _ => none) (none) (fun _ => none) (none) (fun _ _ _ _ _ => none) (fun _ => none) (none) (fun _ _ _ => none) (none) PUnit.unit (fun _ _ _ _ => PUnit.unit) v
def gA (v : AV) : Option (List AV) := @AV.rec (fun _ => Option (List AV)) (fun _ => PUnit) (none) (fun _ _ => none) (fun _ => none) (fun _ => none) (fun l _ => some l) (fun _ _ => none) (fun _ => none) (none) (fun _ _ _ _ => none) (none) (fun _ => none) (none) (fun _ _ _ _ _ => none) (fun _ => none) (none) (fun _ _ _ => none) (none) PUnit.unit (fun _ _ _ _ => PUnit.unit) v
def aDu (v : AV) : Option (List AV) := @AV.rec (fun _ => Option (List AV)) (fun _ => PUnit) (none) (fun _ _ => none) (fun _ => none) (fun _ => none) (fun _ _ => none) (fun l _ => some l) (fun _ => none) (none) (fun _ _ _ _ => none) (none) (fun _ => none) (none) (fun _ _ _ _ _ => none) (fun _ => none) (none) (fun _ _ _ => none) (none) PUnit.unit (fun _ _ _ _ => PUnit.unit) v
def xP (v : AV) : Option Nat := @AV.rec (fun _ => Option Nat) (fun _ => PUnit) (none) (fun _ _ => none) (fun _ => none) (fun _ => none) (fun _ _ => none) (fun _ _ => none) (fun _ => none) (none) (fun _ _ _ _ => none) (none) (fun i => some i) (none) (fun _ _ _ _ _ => none) (fun _ => none) (none) (fun _ _ _ => none) (none) PUnit.unit (fun _ _ _ _ => PUnit.unit) v
def zY (v : AV) : (Pl → Nat → Nat → Bool → XR) → XR → XR → XR := @AV.rec (fun _ => (Pl → Nat → Nat → Bool → XR) → XR → XR → XR) (fun _ => PUnit) (fun _ _ d => d) (fun _ _ => fun _ _ d => d) (fun _ => fun _ _ d => d) (fun _ => fun _ _ d => d) (fun _ _ => fun _ _ d => d) (fun _ _ => fun _ _ d => d) (fun _ => fun _ _ d => d) (fun _ _ d => d) (fun p n e f k _ _ => k p n e f) (fun _ z _ => z) (fun _ => fun _ _ d => d) (fun _ _ d => d) (fun _ _ _ _ _ => fun _ _ d => d) (fun _ => fun _ _ d => d) (fun _ _ d => d) (fun _ _ _ => fun _ _ d => d) (fun _ _ d => d) PUnit.unit (fun _ _ _ _ => PUnit.unit) v
def sP (m n : Nat) : Int := @Bool.rec (fun _ => Int) (.negSucc (Nat.sub (Nat.sub n m) 1)) (.ofNat (Nat.sub m n)) (Nat.ble n m)
def iadd (a b : Int) : Int := @Int.rec (fun _ => Int → Int)
 (fun m b => @Int.rec (fun _ => Int) (fun n => .ofNat (Nat.add m n)) (fun n => sP m (Nat.add n 1)) b)
 (fun m b => @Int.rec (fun _ => Int) (fun n => sP n (Nat.add m 1)) (fun n => .negSucc (Nat.add (Nat.add m n) 1)) b) a b
def tL (n : Nat) : Int := @Nat.rec (fun _ => Int) (.ofNat 0) (fun m _ => .negSucc m) n
def ineg (a : Int) : Int := @Int.rec (fun _ => Int) (fun n => tL n) (fun n => .ofNat (Nat.add n 1)) a
def isub (a b : Int) : Int := iadd a (ineg b)
def imul (a b : Int) : Int := @Int.rec (fun _ => Int → Int)
 (fun m b => @Int.rec (fun _ => Int) (fun n => .ofNat (Nat.mul m n)) (fun n => tL (Nat.mul m (Nat.add n 1))) b)
 (fun m b => @Int.rec (fun _ => Int) (fun n => tL (Nat.mul (Nat.add m 1) n)) (fun n => .ofNat (Nat.mul (Nat.add m 1) (Nat.add n 1))) b) a b
def ile (a b : Int) : Bool := @Int.rec (fun _ => Int → Bool)
 (fun m b => @Int.rec (fun _ => Bool) (fun n => Nat.ble m n) (fun _ => false) b)
 (fun m b => @Int.rec (fun _ => Bool) (fun _ => true) (fun n => Nat.ble n m) b) a b
def ieq (a b : Int) : Bool := @Int.rec (fun _ => Int → Bool)
 (fun m b => @Int.rec (fun _ => Bool) (fun n => Nat.beq m n) (fun _ => false) b)
 (fun m b => @Int.rec (fun _ => Bool) (fun _ => false) (fun n => Nat.beq m n) b) a b
def aAK (b : Bool) : Bool := @Bool.rec (fun _ => Bool) true false b
def in64 (a : Int) : Bool := @Int.rec (fun _ => Bool) (fun n => Nat.ble n 9223372036854775807) (fun n => Nat.ble n 9223372036854775807) a
def wJ (a : Int) : XA := @Bool.rec (fun _ => XA) none (some (.int .i64 a)) (in64 a)
def aC9 (a : Int) : XA := @Bool.rec (fun _ => XA) (some (.int .i64 (IntKind.i64.wrap a))) (some (.int .i64 a)) (in64 a)
def oS (f : Int → Int → XA) (op : BinOp) (x y : AV) : XA := @Option.rec Int (fun _ => XA) (bin op x y) (fun a => @Option.rec Int (fun _ => XA) (bin op x y) (fun b => f a b) (jO y)) (jO x)
def tA (a : Int) : Option Nat := @Int.rec (fun _ => Option Nat) (fun n => some n) (fun _ => none) a
def xdiv (a b : Int) : XA := @Option.rec Nat (fun _ => XA) (eV .quo .i64 a b) (fun m => @Option.rec Nat (fun _ => XA) (eV .quo .i64 a b) (fun n => @Bool.rec (fun _ => XA) (wJ (.ofNat (Nat.div m n))) none (Nat.beq n 0)) (tA b)) (tA a)
def xrem (a b : Int) : XA := @Option.rec Nat (fun _ => XA) (eV .rem .i64 a b) (fun m => @Option.rec Nat (fun _ => XA) (eV .rem .i64 a b) (fun n => @Bool.rec (fun _ => XA) (some (.int .i64 (.ofNat (Nat.mod m n)))) none (Nat.beq n 0)) (tA b)) (tA a)
def xbin (op : BinOp) : AV → AV → XA := @BinOp.rec (fun _ => AV → AV → XA)
 (fun x y => oS (fun a b => wJ (iadd a b)) .add x y)
 (fun x y => oS (fun a b => aC9 (isub a b)) .sub x y)
 (fun x y => oS (fun a b => wJ (imul a b)) .mul x y)
 (fun x y => oS xdiv .quo x y)
 (fun x y => oS xrem .rem x y)
 (fun x y => bin .and x y) (fun x y => bin .or x y) (fun x y => bin .xor x y) (fun x y => bin .shl x y) (fun x y => bin .shr x y) (fun x y => bin .andNot x y)
 (fun x y => oS (fun a b => some (.bool (ieq a b))) .eql x y)
 (fun x y => oS (fun a b => some (.bool (aAK (ieq a b)))) .neq x y)
 (fun x y => oS (fun a b => some (.bool (aAK (ile b a)))) .lss x y)
 (fun x y => oS (fun a b => some (.bool (ile a b))) .leq x y)
 (fun x y => oS (fun a b => some (.bool (aAK (ile a b)))) .gtr x y)
 (fun x y => oS (fun a b => some (.bool (ile b a))) .geq x y) op
def uI (l : List AV) : Nat := @List.rec AV (fun _ => Nat) 0 (fun _ _ ih => Nat.add ih 1) l
def vnth (l : List AV) : Nat → XA := @List.rec AV (fun _ => Nat → XA) (fun _ => none) (fun v _ ih n => @Nat.rec (fun _ => XA) (some v) (fun m _ => ih m) n) l
def wM (n : Nat) : List AV → Option (List AV) := @Nat.rec (fun _ => List AV → Option (List AV)) (fun l => some l) (fun _ ih l => @List.rec AV (fun _ => Option (List AV)) none (fun _ t _ => ih t) l) n
def yR (v : AV) (o : Option (List AV)) : Option (List AV) := @Option.rec (List AV) (fun _ => Option (List AV)) none (fun r => some (v :: r)) o
def wL (n : Nat) : List AV → Option (List AV) := @Nat.rec (fun _ => List AV → Option (List AV)) (fun _ => some []) (fun _ ih l => @List.rec AV (fun _ => Option (List AV)) none (fun v t _ => yR v (ih t)) l) n
def vlay (l : List AV) : List AV → Option (List AV) := @List.rec AV (fun _ => List AV → Option (List AV)) (fun c => some c) (fun x _ ih c => @List.rec AV (fun _ => Option (List AV)) none (fun _ t _ => yR x (ih t)) c) l
def aCd (o : Nat) : List AV → List AV → Option (List AV) := @Nat.rec (fun _ => List AV → List AV → Option (List AV)) (fun l c => vlay l c) (fun _ ih l c => @List.rec AV (fun _ => Option (List AV)) none (fun v t _ => yR v (ih l t)) c) o
def rX (l : List AV) : List AV → List AV := @List.rec AV (fun _ => List AV → List AV) (fun r => r) (fun v _ ih r => v :: ih r) l
def xone (v : AV) : Bool := @AV.rec (fun _ => Bool) (fun _ => PUnit) (false) (fun _ _ => true) (fun _ => true) (fun _ => true) (fun _ _ => false) (fun _ _ => false) (fun _ => true) (true) (fun _ _ _ _ => true) (true) (fun _ => true) (true) (fun _ _ _ _ _ => true) (fun _ => true) (true) (fun _ _ _ => true) (true) PUnit.unit (fun _ _ _ _ => PUnit.unit) v
def aCe (l : List AV) : Bool := @List.rec AV (fun _ => Bool) true (fun v _ ih => @Bool.rec (fun _ => Bool) false ih (xone v)) l
def lC (v : AV) : Option (List AV) := @AV.rec (fun _ => AV → Option (List AV)) (fun _ => PUnit) (fun _ => none) (fun _ _ => fun v => some [v]) (fun _ => fun v => some [v]) (fun _ => fun v => some [v]) (fun l _ _ => @Bool.rec (fun _ => Option (List AV)) none (some l) (aCe l)) (fun _ _ _ => none) (fun _ => fun v => some [v]) (fun v => some [v]) (fun _ _ _ _ => fun v => some [v]) (fun v => some [v]) (fun _ => fun v => some [v]) (fun v => some [v]) (fun _ _ _ _ _ => fun v => some [v]) (fun _ => fun v => some [v]) (fun v => some [v]) (fun _ _ _ => fun v => some [v]) (fun v => some [v]) PUnit.unit (fun _ _ _ _ => PUnit.unit) v v
def uC (w : World) (x : XH) (p : Pl) : Nat → Option (List AV) := @Pl.rec (fun _ => World → XH → Nat → Option (List AV)) (fun a w _ n => rdn w [] (.old a) n)
 (fun i o _ x n => @Option.rec (List AV) (fun _ => Option (List AV)) none (fun c => @Option.rec (List AV) (fun _ => Option (List AV)) none (fun d => wL n d) (wM o c)) (rW x i)) p w x
def xrd (w : World) (x : XH) (p : Pl) : XA := @Pl.rec (fun _ => World → XH → XA) (fun a w _ => rd w [] (.old a))
 (fun i o _ x => @Option.rec (List AV) (fun _ => XA) none (fun c => vnth c o) (rW x i)) p w x
def xrdv (w : World) (x : XH) (p : Pl) (n : Option Nat) : XA := @Option.rec Nat (fun _ => World → XH → Pl → XA) (fun w x p => xrd w x p)
 (fun n w x p => @Option.rec (List AV) (fun _ => XA) none (fun l => some (.agg l)) (uC w x p n)) n w x p
def hG (x : XH) (v : XA) : XR := @Option.rec AV (fun _ => XR) none (fun v => some (v,x)) v
def putR (x : XH) (i : Nat) (c : Option (List AV)) : XR := @Option.rec (List AV) (fun _ => XR) none (fun c => some (.undef,x.put i (some (.row c)))) c
def stoP (p : Pl) : Nat → List AV → XH → XR := @Pl.rec (fun _ => Nat → List AV → XH → XR) (fun _ _ _ _ => none)
 (fun i o n l x => @Bool.rec (fun _ => XR) none (@Option.rec (List AV) (fun _ => XR) none (fun c => putR x i (aCd o l c)) (rW x i)) (Nat.beq (uI l) n)) p
def esb (p : Pl) : Nat → Nat → Bool := @Pl.rec (fun _ => Nat → Nat → Bool) (fun _ _ _ => true) (fun _ _ a b => Nat.beq a b) p
def xH (p : Pl) : Nat → Pl := @Pl.rec (fun _ => Nat → Pl) (fun a n => Pl.add (.old a) n) (fun i o n => .own i (Nat.add o n)) p
def wH (ps : List (Nat × Nat × Opd)) : Fr → List AV → Option (List AV) := @List.rec (Nat × Nat × Opd) (fun _ => Fr → List AV → Option (List AV)) (fun _ c => some c)
 (fun p _ ih fr c => @Option.rec (List AV) (fun _ => Option (List AV)) none (fun l => @Bool.rec (fun _ => Option (List AV)) none (@Option.rec (List AV) (fun _ => Option (List AV)) none (fun d => ih fr d) (aCd p.1 l c)) (Nat.beq (uI l) p.2.1)) (lC (oev p.2.2 fr))) ps
def wC (z : List AV) (n : Nat) : List AV := @Nat.rec (fun _ => List AV) [] (fun _ ih => rX z ih) n
def wE (x : XH) (c : List AV) (len es : Nat) (full : Bool) : XR := some (.sl (.own x.n 0) len es full,x.push (.row c))
def aCF (n : Nat) : AV := .int .i64 (.ofNat n)
def asN (v : AV) : Option Nat := @Option.rec Int (fun _ => Option Nat) (bV v) (fun a => tA a) (jO v)
def xsrc (w : World) (x : XH) (es : Nat) (y : AV) (k : Nat → List AV → XR) : XR := zY y (fun q n es' _ => @Bool.rec (fun _ => XR) none (@Option.rec (List AV) (fun _ => XR) none (fun l => k n l) (uC w x q (Nat.mul n es))) (esb q es es')) (k 0 []) none
def growP (p : Pl) : World → XH → Nat → Nat → Nat → List AV → XR := @Pl.rec (fun _ => World → XH → Nat → Nat → Nat → List AV → XR) (fun _ _ _ _ _ _ _ => none)
 (fun i o w x es len n l => @Option.rec (List AV) (fun _ => XR) none (fun old => some (.sl (.own x.n 0) (Nat.add len n) es false,(x.put i none).push (.row (rX old l)))) (uC w x (.own i o) (Nat.mul len es))) p
def xapp (w : World) (x : XH) (es bytes : Nat) (a y : AV) : XR := xsrc w x es y fun n l => @Bool.rec (fun _ => XR)
 (zY a (fun p len es' full => @Bool.rec (fun _ => XR) none (@Bool.rec (fun _ => XR) (growP p w x es len n l)
  (@Option.rec (List AV) (fun _ => XR) none (fun old => wE x (rX old l) (Nat.add len n) es false) (uC w x p (Nat.mul len es))) full)
  (@Bool.rec (fun _ => Bool) false (@Bool.rec (fun _ => Bool) false (aCe l) (Nat.ble (Nat.mul (Nat.add len n) (Nat.add bytes 1)) 1099511627776)) (esb p es es')))
  (@Bool.rec (fun _ => XR) none (wE x l n es false) (@Bool.rec (fun _ => Bool) false (aCe l) (Nat.ble (Nat.mul n (Nat.add bytes 1)) 1099511627776))) none)
 (zY a (fun _ _ _ _ => some (a,x)) (some (.nilS,x)) none) (Nat.beq n 0)
def fst_ (o : Option Bool) (b : Bool) : Option Bool := @Option.rec Bool (fun _ => Option Bool) none (fun _ => some b) o
def xceq (i : Bool) (x y : AV) : Option Bool := @Option.rec Int (fun _ => Option Bool) (ceq i x y) (fun a => @Option.rec Int (fun _ => Option Bool) (ceq i x y) (fun b => @Bool.rec (fun _ => Option Bool) none (some (ieq a b)) i) (jO y)) (jO x)
def wI (s : List Bool) : List AV → List AV → Option Bool := @List.rec Bool (fun _ => List AV → List AV → Option Bool) (fun x y => cF [] x y)
 (fun i s ih x y => @List.rec AV (fun _ => Option Bool) (cF (i :: s) x y) (fun a x' _ => @List.rec AV (fun _ => Option Bool) (cF (i :: s) x y) (fun b y' _ =>
  @Option.rec Bool (fun _ => Option Bool) none (fun e => @Bool.rec (fun _ => Option Bool) (fst_ (ih x' y') false) (ih x' y') e) (xceq i a b)) y) x) s
def xkeq (s : Bool × List Bool) (x y : AV) : Option Bool := @Bool.rec (fun _ => Option Bool) (wI s.2 [x] [y])
 (@Option.rec (List AV) (fun _ => Option Bool) none (fun a => @Option.rec (List AV) (fun _ => Option Bool) none (fun b => wI s.2 a b) (gA y)) (gA x)) s.1
def aDj (s : Bool × List Bool) (k : AV) (l : List (AV × AV)) : Nat → Option (Option (Nat × AV)) := @List.rec (AV × AV) (fun _ => Nat → Option (Option (Nat × AV))) (fun _ => some none)
 (fun e _ ih i => @Option.rec Bool (fun _ => Option (Option (Nat × AV))) none (fun b => @Bool.rec (fun _ => Option (Option (Nat × AV))) (ih (Nat.add i 1)) (some (some (i,e.2))) b) (xkeq s k e.1)) l
def okV (ok : Bool) (v : AV) (b : Bool) : AV := @Bool.rec (fun _ => AV) v (.tup [v,.bool b]) ok
def aBv (z : AV) (ok : Bool) (m : AV) : XA := @AV.rec (fun _ => XA) (fun _ => PUnit) (none) (fun _ _ => none) (fun _ => none) (fun _ => none) (fun _ _ => none) (fun _ _ => none) (fun _ => none) (none) (fun _ _ _ _ => none) (none) (fun _ => none) (some (okV ok z false)) (fun _ _ _ _ _ => none) (fun _ => none) (none) (fun _ _ _ => none) (none) PUnit.unit (fun _ _ _ _ => PUnit.unit) m
def xlook (s : Bool × List Bool) (z : AV) (ok : Bool) (x : XH) (m k : AV) : XR := @Option.rec Bool (fun _ => XR) none (fun _ =>
 @Option.rec Nat (fun _ => XR) (hG x (aBv z ok m))
  (fun i => @Option.rec (List (AV × AV)) (fun _ => XR) none (fun es => @Option.rec (Option (Nat × AV)) (fun _ => XR) none
   (fun r => @Option.rec (Nat × AV) (fun _ => XR) (some (okV ok z false,x)) (fun p => some (okV ok p.2 true,x)) r) (aDj s k es 0)) (xmap x i)) (xP m)) (xkeq s k k)
def eset (l : List (AV × AV)) : Nat → AV × AV → List (AV × AV) := @List.rec (AV × AV) (fun _ => Nat → AV × AV → List (AV × AV)) (fun _ _ => []) (fun x t ih n y => @Nat.rec (fun _ => List (AV × AV)) (y :: t) (fun m _ => x :: ih m y) n) l
def eapp (l : List (AV × AV)) : AV × AV → List (AV × AV) := @List.rec (AV × AV) (fun _ => AV × AV → List (AV × AV)) (fun y => [y]) (fun x _ ih y => x :: ih y) l
def xmput (s : Bool × List Bool) (x : XH) (m k v : AV) : XR := @Option.rec Bool (fun _ => XR) none (fun _ =>
 @Option.rec Nat (fun _ => XR) none
  (fun i => @Option.rec (List (AV × AV)) (fun _ => XR) none (fun es => @Option.rec (Option (Nat × AV)) (fun _ => XR) none
   (fun r => @Option.rec (Nat × AV) (fun _ => XR) (some (.undef,x.put i (some (.map (eapp es (k,v)))))) (fun p => some (.undef,x.put i (some (.map (eset es p.1 (k,v)))))) r) (aDj s k es 0)) (xmap x i)) (xP m)) (xkeq s k k)
def bxor (n b : Bool) : Bool := @Bool.rec (fun _ => Bool) b (aAK b) n
def beqb (a b : Bool) : Bool := @Bool.rec (fun _ => Bool) (aAK b) b a
def aEc (sl : Bool) (v : AV) : Option Bool := @AV.rec (fun _ => Bool → Option Bool) (fun _ => PUnit) (fun _ => none) (fun _ _ => fun _ => none) (fun _ => fun _ => none) (fun _ => fun _ => none) (fun _ _ => fun _ => none) (fun _ _ => fun _ => none) (fun _ => fun _ => none) (fun _ => none) (fun _ _ _ _ s => @Bool.rec (fun _ => Option Bool) none (some false) s) (fun s => @Bool.rec (fun _ => Option Bool) none (some true) s) (fun _ => fun _ => none) (fun _ => none) (fun _ _ _ _ _ s => @Bool.rec (fun _ => Option Bool) (some false) none s) (fun _ s => @Bool.rec (fun _ => Option Bool) (some false) none s) (fun s => @Bool.rec (fun _ => Option Bool) (some true) none s) (fun _ _ _ => fun _ => none) (fun _ => none) PUnit.unit (fun _ _ _ _ => PUnit.unit) v sl
def aEe (v : AV) : Option Bool := @AV.rec (fun _ => Option Bool) (fun _ => PUnit) (none) (fun _ _ => none) (fun _ => none) (fun _ => none) (fun _ _ => none) (fun _ _ => none) (fun _ => none) (none) (fun _ _ _ _ => none) (none) (fun _ => none) (none) (fun _ _ _ _ _ => none) (fun _ => none) (none) (fun _ _ _ => some false) (some true) PUnit.unit (fun _ _ _ _ => PUnit.unit) v
def aAj (v : AV) : XA := match yC v with
 | some false => match v with
  | .ptr p => some (.ptr p)
  | .fn (.func f) a b => some (.fn (.func f) a b)
  | _ => none
 | _ => none
def aEa (v : AV) : XA := @Option.rec Pl (fun _ => XA) (aAj v) (fun p => some (.ptr p)) (gU v)
def xun (op : UnOp) : AV → XA := @UnOp.rec (fun _ => AV → XA) (fun v => pV .neg v) (fun v => pV .xor v) (fun v => @Option.rec Bool (fun _ => XA) (pV .not v) (fun b => some (.bool (aAK b))) (dG v)) (fun v => pV .plus v) op
def aBO (k : IntKind) (v : AV) : XA := match v with
 | .int _ n => dJ k n
 | _ => none
def xconv (k : IntKind) (v : AV) : XA := @Option.rec Int (fun _ => XA) (aBO k v) (fun n => @Option.rec Int (fun _ => XA) (aBO k v) (fun n => wJ n) (i64P k n)) (jO v)
def xmm (m : Bool) (l : List AV) : AV → XA := @List.rec AV (fun _ => AV → XA) (fun v => some v)
 (fun y r ih v => @Option.rec Int (fun _ => XA) (mm m v (y :: r)) (fun a => @Option.rec Int (fun _ => XA) (mm m v (y :: r)) (fun b => @Bool.rec (fun _ => XA)
  (ih (.int .i64 (@Bool.rec (fun _ => Int) b a (ile b a))))
  (ih (.int .i64 (@Bool.rec (fun _ => Int) b a (ile a b)))) m) (jO y)) (jO v)) l
def aEO (o : Option Opd) : Nat → Fr → Option Nat := @Option.rec Opd (fun _ => Nat → Fr → Option Nat) (fun d _ => some d) (fun x _ fr => asN (oev x fr)) o
def oW (fr : Fr) (n : Nat) (lo hi mx : Option Opd) : Option (Nat × Nat × Option Nat) := @Option.rec Opd (fun _ => Option (Nat × Nat × Option Nat))
 (@Option.rec Nat (fun _ => Option (Nat × Nat × Option Nat)) none (fun l => @Option.rec Nat (fun _ => Option (Nat × Nat × Option Nat)) none (fun h => @Bool.rec (fun _ => Option (Nat × Nat × Option Nat)) none (@Bool.rec (fun _ => Option (Nat × Nat × Option Nat)) none (some (l,h,none)) (Nat.ble h n)) (Nat.ble l h)) (aEO hi n fr)) (aEO lo 0 fr))
 (fun _ => bR fr n lo hi mx) mx
def band (a b : Bool) : Bool := @Bool.rec (fun _ => Bool) false b a
def aDi (m : Option Nat) : Nat → Bool → Bool := @Option.rec Nat (fun _ => Nat → Bool → Bool) (fun _ d => d) (fun m hh _ => Nat.beq m hh) m
def aDc (l : List AV) (off : Nat) (n : Option Nat) : XA := @Option.rec Nat (fun _ => XA) (vnth l off) (fun n => @Option.rec (List AV) (fun _ => XA) (pickAgg l off (some n)) (fun d => @Option.rec (List AV) (fun _ => XA) (pickAgg l off (some n)) (fun r => some (.agg r)) (wL n d)) (wM off l)) n
def ownK (p : Pl) : (Nat → Nat → XR) → XR := @Pl.rec (fun _ => (Nat → Nat → XR) → XR) (fun _ _ => none) (fun i o k => k i o) p
abbrev XOp := World → Fr → XH → XR
def xMov (x : Opd) : XOp := fun _ fr h => some (oev x fr,h)
def xPick (c a b : Opd) : XOp := fun _ fr h => @Option.rec Bool (fun _ => XR) none (fun t => some (@Bool.rec (fun _ => AV) (oev b fr) (oev a fr) t,h)) (dG (oev c fr))
def xBox (x : Opd) (n : Nat) : XOp := fun _ fr h => @Option.rec (List AV) (fun _ => XR) none (fun l => @Bool.rec (fun _ => XR) none (some (.ptr (.own h.n 0),h.push (.row l))) (Nat.beq (uI l) n)) (lC (oev x fr))
def xAlloc (z : List AV) : XOp := fun _ _ h => some (.ptr (.own h.n 0),h.push (.row z))
def xBuild (z : List AV) (ps : List (Nat × Nat × Opd)) : XOp := fun _ fr h => @Option.rec (List AV) (fun _ => XR) none (fun c => some (.agg c,h)) (wH ps fr z)
def xBsl (es : Nat) (z : List AV) (len : Nat) (ps : List (Nat × Nat × Opd)) : XOp := fun _ fr h => @Option.rec (List AV) (fun _ => XR) none (fun c => wE h c len es true) (wH ps fr (wC z len))
def xLoad (x : Opd) (n : Option Nat) : XOp := fun w fr h => @Option.rec Pl (fun _ => XR) none (fun p => hG h (xrdv w h p n)) (gU (oev x fr))
def xStore (x v : Opd) (n : Nat) : XOp := fun _ fr h => @Option.rec Pl (fun _ => XR) none (fun p => @Option.rec (List AV) (fun _ => XR) none (fun l => stoP p n l h) (lC (oev v fr))) (gU (oev x fr))
def xNilck (x : Opd) : XOp := fun _ fr h => hG h (aEa (oev x fr))
def xBin (op : BinOp) (x y : Opd) : XOp := fun _ fr h => hG h (xbin op (oev x fr) (oev y fr))
def xEqb (neq : Bool) (x y : Opd) : XOp := fun _ fr h => @Option.rec Bool (fun _ => XR) none (fun a => @Option.rec Bool (fun _ => XR) none (fun b => some (.bool (bxor neq (beqb a b)),h)) (dG (oev y fr))) (dG (oev x fr))
def negO (neq : Bool) (o : Option Bool) (h : XH) : XR := @Option.rec Bool (fun _ => XR) none (fun b => some (.bool (bxor neq b),h)) o
def xEqag (s : List Bool) (neq : Bool) (x y : Opd) : XOp := fun _ fr h => @Option.rec (List AV) (fun _ => XR) none (fun a => @Option.rec (List AV) (fun _ => XR) none (fun b => negO neq (wI s a b) h) (gA (oev y fr))) (gA (oev x fr))
def xEqnil (sl neq : Bool) (x : Opd) : XOp := fun _ fr h => negO neq (aEc sl (oev x fr)) h
def xUn (op : UnOp) (x : Opd) : XOp := fun _ fr h => hG h (xun op (oev x fr))
def xConv (k : IntKind) (x : Opd) : XOp := fun _ fr h => hG h (xconv k (oev x fr))
def xMkif (t : TypeId) (x : Opd) : XOp := fun _ fr h => some (.ifc t (oev x fr),h)
def xMkfn (f : Fn) (a b : List Opd) : XOp := fun _ fr h => some (.fn f (evs a fr) (evs b fr),h)
def xMkmap : XOp := fun _ _ h => some (.map h.n,h.push (.map []))
def xMksl (es : Nat) (z : List AV) (bytes : Nat) (len cap : Opd) : XOp := fun _ fr h => @Option.rec Nat (fun _ => XR) none (fun l => @Option.rec Nat (fun _ => XR) none (fun c => @Bool.rec (fun _ => XR) none (wE h (wC z c) l es (Nat.beq l c)) (band (Nat.ble l c) (Nat.ble (Nat.mul c (Nat.add bytes 1)) 1099511627776))) (asN (oev cap fr))) (asN (oev len fr))
def xSlc (es : Nat) (x : Opd) (lo hi mx : Option Opd) : XOp := fun _ fr h => zY (oev x fr)
 (fun p len es' full => @Bool.rec (fun _ => XR) none (@Option.rec (Nat × Nat × Option Nat) (fun _ => XR) none (fun b => some (.sl (xH p (Nat.mul b.1 es)) (Nat.sub b.2.1 b.1) es' (aDi b.2.2 b.2.1 (band full (Nat.beq b.2.1 len))),h)) (oW fr len lo hi mx)) (esb p es es'))
 (@Option.rec (Nat × Nat × Option Nat) (fun _ => XR) none (fun _ => some (.nilS,h)) (oW fr 0 lo hi mx)) none
def xSlca (n es : Nat) (x : Opd) (lo hi mx : Option Opd) : XOp := fun _ fr h => @Option.rec Pl (fun _ => XR) none (fun p => ownK p fun i o => @Option.rec (List AV) (fun _ => XR) none (fun c => @Bool.rec (fun _ => XR) none
 (@Option.rec (Nat × Nat × Option Nat) (fun _ => XR) none (fun b => some (.sl (.own i (Nat.add o (Nat.mul b.1 es))) (Nat.sub b.2.1 b.1) es (aDi b.2.2 b.2.1 (Nat.beq b.2.1 n)),h)) (oW fr n lo hi mx)) (Nat.ble (Nat.add o (Nat.mul n es)) (uI c))) (rW h i)) (gU (oev x fr))
def xAddr (x : Opd) (off : Nat) : XOp := fun _ fr h => @Option.rec Pl (fun _ => XR) none (fun p => some (.ptr (xH p off),h)) (gU (oev x fr))
def xFld (x : Opd) (off : Nat) (n : Option Nat) : XOp := fun _ fr h => @Option.rec (List AV) (fun _ => XR) none (fun l => hG h (aDc l off n)) (gA (oev x fr))
def ltN (j n : Nat) : Bool := Nat.ble (Nat.add j 1) n
def xIdxs (es : Nat) (x i : Opd) : XOp := fun _ fr h => zY (oev x fr) (fun p len es' _ => @Option.rec Nat (fun _ => XR) none (fun j => @Bool.rec (fun _ => XR) none (some (.ptr (xH p (Nat.mul j es)),h)) (band (esb p es es') (ltN j len))) (asN (oev i fr))) none none
def xIdxa (n es : Nat) (x i : Opd) : XOp := fun _ fr h => @Option.rec Pl (fun _ => XR) none (fun p => @Option.rec Nat (fun _ => XR) none (fun j => @Bool.rec (fun _ => XR) none (some (.ptr (xH p (Nat.mul j es)),h)) (ltN j n)) (asN (oev i fr))) (gU (oev x fr))
def xIdx (n es : Nat) (agg : Bool) (x i : Opd) : XOp := fun _ fr h => @Option.rec (List AV) (fun _ => XR) none (fun l => @Option.rec Nat (fun _ => XR) none (fun j => @Bool.rec (fun _ => XR) none (hG h (aDc l (Nat.mul j es) (@Bool.rec (fun _ => Option Nat) none (some es) agg))) (ltN j n)) (asN (oev i fr))) (gA (oev x fr))
def xLook (s : Bool × List Bool) (z : AV) (ok : Bool) (x k : Opd) : XOp := fun _ fr h => xlook s z ok h (oev x fr) (oev k fr)
def xMput (s : Bool × List Bool) (m k v : Opd) : XOp := fun _ fr h => xmput s h (oev m fr) (oev k fr) (oev v fr)
def xExt (x : Opd) (i : Nat) : XOp := fun _ fr h => @Option.rec (List AV) (fun _ => XR) none (fun l => hG h (vnth l i)) (aDu (oev x fr))
def xLen (x : Opd) : XOp := fun _ fr h => zY (oev x fr) (fun _ n _ _ => some (aCF n,h)) (some (aCF 0,h)) none
def elen (l : List (AV × AV)) : Nat := @List.rec (AV × AV) (fun _ => Nat) 0 (fun _ _ ih => Nat.add ih 1) l
def aEt (v : AV) : XA := @AV.rec (fun _ => XA) (fun _ => PUnit) (none) (fun _ _ => none) (fun _ => none) (fun _ => none) (fun _ _ => none) (fun _ _ => none) (fun _ => none) (none) (fun _ _ _ _ => none) (none) (fun _ => none) (some (aCF 0)) (fun _ _ _ _ _ => none) (fun _ => none) (none) (fun _ _ _ => none) (none) PUnit.unit (fun _ _ _ _ => PUnit.unit) v
def xLenm (x : Opd) : XOp := fun _ fr h => @Option.rec Nat (fun _ => XR) (hG h (aEt (oev x fr))) (fun i => @Option.rec (List (AV × AV)) (fun _ => XR) none (fun es => some (aCF (elen es),h)) (xmap h i)) (xP (oev x fr))
def xLena (n : Nat) : XOp := fun _ _ h => some (aCF n,h)
def xApp (es : Nat) (_ : List AV) (bytes : Nat) (x y : Opd) : XOp := fun w fr h => xapp w h es bytes (oev x fr) (oev y fr)
def xMin (m : Bool) (l : List Opd) : XOp := fun _ fr h => @List.rec AV (fun _ => XR) none (fun v r _ => hG h (xmm m r v)) (evs l fr)
def xEqni (neq : Bool) (x : Opd) : XOp := fun _ fr h => negO neq (aEe (oev x fr)) h
def xTass (t : TypeId) (z : AV) (ok : Bool) (x : Opd) : XOp := fun _ fr h => hG h (oG t z ok (oev x fr))
def xNo : XOp := fun _ _ _ => none
def xop (o : MOp) : XOp := @MOp.rec (fun _ => XOp) xMov xPick xBox xAlloc xBuild xBsl xLoad xStore xNilck xBin xEqb xEqag xEqnil xUn xConv xMkif xMkfn xMkmap xMksl xSlc xSlca xAddr xFld xIdxs xIdxa xIdx xLook xMput xExt xLen xLenm xLena xApp xMin xEqni xTass (fun _ _ _ => xNo) (fun _ => xNo) (fun _ _ => xNo) xNo o
abbrev iS := AV → List AV → XH → XR
abbrev XO := Option (Fr × XH)
abbrev dN := Option (Exit × Fr × XH)
def tupE (v : AV) : Bool := @AV.rec (fun _ => Bool) (fun _ => PUnit) (false) (fun _ _ => false) (fun _ => false) (fun _ => false) (fun _ _ => false) (fun l _ => @List.rec AV (fun _ => Bool) true (fun _ _ _ => false) l) (fun _ => false) (false) (fun _ _ _ _ => false) (false) (fun _ => false) (false) (fun _ _ _ _ _ => false) (fun _ => false) (false) (fun _ _ _ => false) (false) PUnit.unit (fun _ _ _ _ => PUnit.unit) v
def xput (d : Option Nat) : AV → Fr → Fr := @Option.rec Nat (fun _ => AV → Fr → Fr) (fun _ fr => fr) (fun d v fr => (d,v) :: fr) d
def gK (g : Option (Nat × Bool)) : Fr → (Fr → XO) → (Fr → XO) → XO := @Option.rec (Nat × Bool) (fun _ => Fr → (Fr → XO) → (Fr → XO) → XO) (fun fr yes _ => yes fr)
 (fun p fr yes no => @Option.rec Bool (fun _ => XO) (@Bool.rec (fun _ => XO) none (no fr) (tupE (lY fr p.1))) (fun c => @Bool.rec (fun _ => XO) (no ((p.1,.bool c) :: fr)) (yes ((p.1,.bool c) :: fr)) (beqb c p.2)) (dG (lY fr p.1))) g
def setR (d : Option Nat) (fr : Fr) (o : XR) : XO := @Option.rec (AV × XH) (fun _ => XO) none (fun p => @Prod.rec AV XH (fun _ => XO) (fun v x => some (xput d v fr,x)) p) o
def xI (x : MIx) : World → iS → Fr → XH → XO := @MIx.rec (fun _ => World → iS → Fr → XH → XO)
 (fun d g o w _ fr h => gK g fr (fun fr => setR d fr (xop o w fr h)) (fun fr => some (xput d (.tup []) fr,h)))
 (fun d g f as _ call fr h => gK g fr (fun fr => setR d fr (call (oev f fr) (evs as fr) h)) (fun fr => some (xput d (.tup []) fr,h))) x
def xO (l : List MIx) : World → iS → Fr → XH → XO := @List.rec MIx (fun _ => World → iS → Fr → XH → XO) (fun _ _ fr h => some (fr,h))
 (fun x _ ih w call fr h => @Option.rec (Fr × XH) (fun _ => XO) none (fun p => @Prod.rec Fr XH (fun _ => XO) (fun f x => ih w call f x) p) (xI x w call fr h)) l
def xA (w : World) (lp : List MIx) (fr : Fr) (h : XH) : List Nat → Bool
 | [] => true
 | u :: us => (match lp[u]? with
  | some (.op (some t) g o) => (match want fr g with
   | some true => (match xop o w fr h with
    | some p => AV.eqb p.1 (lY fr t)
    | none => false)
   | some false => AV.eqb (.tup []) (lY fr t)
   | none => false)
  | _ => false) && xA w lp fr h us
def xW (w : World) (call : iS) (lp : List MIx) (R : List (List Nat)) : List Nat → Fr → XH → XO
 | [],fr,h => some (fr,h)
 | i :: is,fr,h => match lp[i]? with
  | some x => match xI x w call fr h with
   | some p => match xA w lp p.1 p.2 (R.getD i []) with
    | true => xW w call lp R is p.1 p.2
    | false => none
   | none => none
  | none => none
def aAY (o : XO) : dN := @Option.rec (Fr × XH) (fun _ => dN) none (fun p => some (.normal,p)) o
def xDok (l : List MIx) (bef : List (List Nat)) (π : List Nat) (R : List (List Nat)) (lp : List MIx) : Bool := fA l.length π && (Nat.ble R.length lp.length && iP lp (fun p q => Nat.blt p lp.length && (Nat.blt q lp.length && bfr bef (π.getD p 0) (π.getD q 0))) fun p => R.getD p [])
def xD (w : World) (call : iS) (l : List MIx) (bef : List (List Nat)) (π : List Nat) (R : List (List Nat)) (fr : Fr) (h : XH) : dN :=
 match π.mapM fun i => l[i]? with
 | some lp => match xDok l bef π R lp with
  | true => aAY (xW w call lp R (List.range lp.length) fr h)
  | false => none
 | none => none
def aAv (v : AV) : (AV → Fr) → Fr := @AV.rec (fun _ => (AV → Fr) → Fr) (fun _ => PUnit) (fun k => k .undef) (fun a n k => k (.int a n)) (fun b k => k (.bool b)) (fun s k => k (.str s)) (fun l _ k => k (.agg l)) (fun l _ k => k (.tup l)) (fun p k => k (.ptr p)) (fun k => k .nilP) (fun p n e f k => k (.sl p n e f)) (fun k => k .nilS) (fun i k => k (.map i)) (fun k => k .nilM) (fun f a b _ _ k => k (.fn f a b)) (fun i k => k (.yld i)) (fun k => k .nilF) (fun t v _ k => k (.ifc t v)) (fun k => k .nilI) PUnit.unit (fun _ _ _ _ => PUnit.unit) v
def xkp (l : List Nat) : Fr → Fr := @List.rec Nat (fun _ => Fr → Fr) (fun _ => []) (fun t _ ih fr => aAv (lY fr t) fun v => (t,v) :: ih fr) l
structure XEv where
 w0 : World
 tab : XT SF
 orc : Nat → List AV → XA
 prm : List MIx → Option (List Nat × List (List Nat))
structure XC where
 X : XEv
 call : LE → iS
 fuel : Nat
 r : Option Nat
 nt : Nat
 E : LE
def exK (e : Exit) (p : dN) (k : dN) : dN := @Exit.rec (fun _ => dN → dN → dN) (fun _ k => k) (fun _ p _ => p) (fun _ p _ => p) (fun p _ => p) (fun _ p _ => p) (fun p _ => p) e p k
def xLp (body : Fr → XH → dN) (keep : List Nat) (n : Nat) : Fr → XH → dN := @Nat.rec (fun _ => Fr → XH → dN) (fun _ _ => none)
 (fun _ ih fr h => @Option.rec (Exit × Fr × XH) (fun _ => dN) none (fun p => exK p.1 (some p) (ih (xkp keep p.2.1) p.2.2)) (body fr h)) n
def xrOk (r : Option Nat) (h : XH) : Bool :=
 match r with
 | none => true
 | some i => match h.at_ i with
  | some (.loop _ _ _ _ _ _ _) => true
  | _ => false
def aDg (fr : Fr) (h : XH) : Option Code → dN
 | none => some (.normal,fr,h)
 | some .ret => some (.ret,fr,h)
 | some (.exit id) => some (.exit id,fr,h)
 | _ => none
def isFn (v : AV) : Bool := match v with
 | .fn (.func _) _ _ => true
 | _ => false
def xrng (f : Opd) (ps : Array Tmp) (ca cb : Code) (ma mb : SC) (c : XC) (fr : Fr) (h : XH) : dN :=
 match xrOk c.r h && isFn (oev f fr) with
 | true => match c.call ((h.n,ma,mb) :: c.E) (oev f fr) [.yld h.n] (h.push (.loop c.nt fr ps ca cb .ready none)) with
  | some p => match p.2.at_ h.n with
   | some (.loop _ _ _ _ _ st pd) => match st with
    | .busy => none
    | _ => aDg fr (p.2.put h.n none) pd
   | _ => none
  | none => none
 | false => none
def xblk (id : Nat) (o : dN) : dN := match o with
 | some (.exit i,fr,h) => match Nat.beq i id with
  | true => some (.normal,fr,h)
  | false => some (.exit i,fr,h)
 | x => x
def zM (o : dN) : dN := match o with
 | some (.goto _,_,_) => none
 | x => x
def aDk (l : List MIx) (bef : List (List Nat)) (c : XC) (fr : Fr) (h : XH) : dN := match c.X.prm l with
 | some p => xD c.X.w0 (c.call c.E) l bef p.1 p.2 fr h
 | none => none
def xS (s : SC) : XC → Fr → XH → dN := @SC.rec (fun _ => XC → Fr → XH → dN)
 (fun _ fr h => some (.normal,fr,h))
 (fun _ fr h => some (.ret,fr,h))
 (fun id _ fr h => some (.exit id,fr,h))
 (fun l c fr h => aAY (xO l c.X.w0 (c.call c.E) fr h))
 (fun fl l bef c fr h => @List.rec Bool (fun _ => dN) (aDk l bef c fr h) (fun _ _ _ => aAY (xO l c.X.w0 (c.call c.E) fr h)) fl)
 (fun _ _ ia ib c fr h => @Option.rec (Exit × Fr × XH) (fun _ => dN) none (fun p => exK p.1 (some p) (ib c p.2.1 p.2.2)) (ia c fr h))
 (fun o _ _ ia ib => @Opd.rec (fun _ => XC → Fr → XH → dN)
  (fun t c fr h => @Option.rec Bool (fun _ => dN) none (fun b => @Bool.rec (fun _ => dN) (ib c ((t,.bool false) :: fr) h) (ia c ((t,.bool true) :: fr) h) b) (dG (lY fr t)))
  (fun v c fr h => @Option.rec Bool (fun _ => dN) none (fun b => @Bool.rec (fun _ => dN) (ib c fr h) (ia c fr h) b) (dG v)) o)
 (fun id _ ia c fr h => xblk id (ia c fr h))
 (fun keep _ ia c fr h => xLp (ia c) keep c.fuel (xkp keep fr) h)
 (fun f ps ca cb ma mb _ _ c fr h => xrng f ps ca cb ma mb c fr h)
 (fun _ _ fr h => some (.normal,fr,h))
 (fun _ ia c fr h => zM (ia c fr h))
 (fun _ _ _ _ _ _ _ _ => none) (fun _ _ _ _ _ _ _ => none) (fun _ _ _ _ _ _ _ _ => none) s
def zN (rec_ : LoopState → Option Code → Blk) (i : Nat) (h : XH) : Exit → XR
 | .normal => some (.bool true,h.put i (some (rec_ .ready none)))
 | .ret => some (.bool false,h.put i (some (rec_ .done (some .ret))))
 | .exit id => some (.bool false,h.put i (some (rec_ .done (some (.exit id)))))
 | _ => none
def aDb (r : RV) : World → Fr → XH → XA := @RV.rec (fun _ => World → Fr → XH → XA) (fun n _ fr _ => some (lY fr n)) (fun n g w fr h => @Option.rec Pl (fun _ => XA) none (fun p => xrdv w h p g) (gU (lY fr n))) r
def xresL (l : List RV) : World → Fr → XH → Option (List AV) := @List.rec RV (fun _ => World → Fr → XH → Option (List AV)) (fun _ _ _ => some [])
 (fun r _ ih w fr h => @Option.rec AV (fun _ => Option (List AV)) none (fun v => yR v (ih w fr h)) (aDb r w fr h)) l
def tupL (l : List AV) : AV := @List.rec AV (fun _ => AV) (.tup []) (fun v r _ => @List.rec AV (fun _ => AV) v (fun a b _ => .tup (v :: a :: b)) r) l
def xres (rs : List RV) (w : World) (fr : Fr) (h : XH) : XR := @Option.rec (List AV) (fun _ => XR) none (fun l => some (tupL l,h)) (xresL rs w fr h)
def exR (e : Exit) (k : XR) : XR := @Exit.rec (fun _ => XR → XR) (fun k => k) (fun _ _ => none) (fun _ _ => none) (fun k => k) (fun _ _ => none) (fun _ => none) e k
def xret (w : World) (rs : List RV) (o : dN) : XR := @Option.rec (Exit × Fr × XH) (fun _ => XR) none (fun p => exR p.1 (xres rs w p.2.1 p.2.2)) o
def aDh (l : List AV) : Nat → Fr := @List.rec AV (fun _ => Nat → Fr) (fun _ => []) (fun v _ ih n => (n,v) :: ih (Nat.add n 1)) l
def callF (X : XEv) (n : Nat) (ih : LE → iS) (E : LE) (f : Nat) (args : List AV) (h : XH) : XR := @Option.rec AV (fun _ => XR)
 (@Option.rec SF (fun _ => XR) none (fun mf => @Bool.rec (fun _ => XR) none (xret X.w0 mf.res (xS mf.body ⟨X,ih,n,none,mf.nt,E⟩ (aDh args 0) h)) (Nat.ble (uI args) mf.nt)) (tget X.tab (Nat.add f 1)))
 (fun v => some (v,h)) (X.orc f args)
def zL (X : XEv) (n : Nat) (ih : LE → iS) (E : LE) (i : Nat) (args : List AV) (h : XH) : XR :=
 match h.at_ i,xR i E with
 | some (.loop nt fr0 ps ca cb .ready none),some p => match Nat.beq args.length ps.size with
  | true => match xS p.1 ⟨X,ih,n,some i,nt,E⟩ (jN fr0 ps.toList args) h with
   | some (.normal,fr1,h1) => match h1.at_ i with
    | some (.loop _ _ _ _ _ .ready none) => match xS p.2 ⟨X,ih,n,some i,nt,E⟩ fr1 (h1.put i (some (.loop nt fr0 ps ca cb .busy none))) with
     | some (e,_,h2) => match h2.at_ i with
      | some (.loop _ _ _ _ _ _ _) => zN (.loop nt fr0 ps ca cb) i h2 e
      | _ => none
     | none => none
    | _ => none
   | _ => none
  | false => none
 | _,_ => none
def fnK (v : AV) : (Nat → List AV → List AV → XR) → (Nat → XR) → XR := @AV.rec (fun _ => (Nat → List AV → List AV → XR) → (Nat → XR) → XR) (fun _ => PUnit) (fun _ _ => none) (fun _ _ => fun _ _ => none) (fun _ => fun _ _ => none) (fun _ => fun _ _ => none) (fun _ _ => fun _ _ => none) (fun _ _ => fun _ _ => none) (fun _ => fun _ _ => none) (fun _ _ => none) (fun _ _ _ _ => fun _ _ => none) (fun _ _ => none) (fun _ => fun _ _ => none) (fun _ _ => none) (fun f a b _ _ k _ => @Fn.rec (fun _ => XR) (fun f => k f a b) (fun _ => none) (fun _ _ => none) (fun _ _ _ _ => none) (fun _ => none) f) (fun i _ k => k i) (fun _ _ => none) (fun _ _ _ => fun _ _ => none) (fun _ _ => none) PUnit.unit (fun _ _ _ _ => PUnit.unit) v
def xC (X : XEv) (n : Nat) : LE → iS := @Nat.rec (fun _ => LE → iS) (fun _ _ _ _ => none)
 (fun n ih E fv as h => fnK fv (fun f first capt => callF X n ih E f (rX (rX first as) capt) h) (fun i => zL X n ih E i as h)) n
end
theorem oB {α : Type} (x y : α) (b : Bool) : @Bool.rec (fun _ => α) x y b = if b = true then y else x := by cases b <;> rfl
theorem vN (k : Nat) : kA .e k = none := rfl
theorem iE (v : Option Blk) (l r : XT Blk) (k : Nat) : kA (.n v l r) k = if k = 1 then v else if k % 2 = 0 then kA l (k / 2) else kA r (k / 2) := by
 show @Bool.rec (fun _ => Option Blk) (@Bool.rec (fun _ => Option Blk) (kA r (k / 2)) (kA l (k / 2)) (Nat.beq (k % 2) 0)) v (Nat.beq k 1) = _
 simp only [oB,aL]
theorem tmk_s (f j : Nat) (b : Option Blk) : tmk (f + 1) j b = if j = 1 then .n b .e .e else if j % 2 = 0 then .n none (tmk f (j / 2) b) .e else .n none .e (tmk f (j / 2) b) := by
 show @Bool.rec (fun _ => XT Blk) (@Bool.rec (fun _ => XT Blk) (.n none .e (tmk f (j / 2) b)) (.n none (tmk f (j / 2) b) .e) (Nat.beq (j % 2) 0)) (.n b .e .e) (Nat.beq j 1) = _
 simp only [oB,aL]
theorem tset_n (v : Option Blk) (l r : XT Blk) (j : Nat) (b : Option Blk) : rY (.n v l r) j b = if j = 1 then .n b l r else if j % 2 = 0 then .n v (rY l (j / 2) b) r else .n v l (rY r (j / 2) b) := by
 show @Bool.rec (fun _ => XT Blk) (@Bool.rec (fun _ => XT Blk) (.n v l (rY r (j / 2) b)) (.n v (rY l (j / 2) b) r) (Nat.beq (j % 2) 0)) (.n b l r) (Nat.beq j 1) = _
 simp only [oB,aL]
theorem yY (b : Option Blk) : ∀ (f j k : Nat),1 ≤ j → j ≤ f + 1 → 1 ≤ k → kA (tmk f j b) k = if j = k then b else none
 | 0,j,k,h1,h2,h3 => by
  have : j = 1 := by omega
  subst this
  show kA (.n b .e .e) k = _
  rw [iE]
  simp only [vN,ite_self,eq_comm (a := 1)]
 | f + 1,j,k,h1,h2,h3 => by
  rw [tmk_s]
  by_cases e1 : j = 1
  · subst e1
    rw [if_pos rfl,iE]; simp only [vN,ite_self,eq_comm (a := 1)]
  · rw [if_neg e1]
    have ih := yY b f (j / 2) (k / 2) (by omega) (by omega)
    by_cases e2 : j % 2 = 0
    · rw [if_pos e2,iE]
      by_cases e3 : k = 1
      · rw [if_pos e3,if_neg (by omega)]
      · rw [if_neg e3]
        by_cases e4 : k % 2 = 0
        · rw [if_pos e4,ih (by omega)]
          by_cases e5 : j = k
          · rw [if_pos e5,if_pos (by omega)]
          · rw [if_neg e5,if_neg (by omega)]
        · rw [if_neg e4,vN,if_neg (by omega)]
    · rw [if_neg e2,iE]
      by_cases e3 : k = 1
      · rw [if_pos e3,if_neg (by omega)]
      · rw [if_neg e3]
        by_cases e4 : k % 2 = 0
        · rw [if_pos e4,vN,if_neg (by omega)]
        · rw [if_neg e4,ih (by omega)]
          by_cases e5 : j = k
          · rw [if_pos e5,if_pos (by omega)]
          · rw [if_neg e5,if_neg (by omega)]
theorem kP (b : Option Blk) : ∀ (t : XT Blk) (j k : Nat),1 ≤ j → 1 ≤ k → kA (rY t j b) k = if j = k then b else kA t k
 | .e,j,k,h1,h3 => by
  show kA (tmk j j b) k = _
  rw [yY b j j k h1 (by omega) h3]; rfl
 | .n v l r,j,k,h1,h3 => by
  rw [tset_n]
  by_cases e1 : j = 1
  · subst e1
    rw [if_pos rfl,iE,iE]
    by_cases e : k = 1
    · subst e; simp
    · rw [if_neg e,if_neg (c := 1 = k) (fun h => e h.symm),if_neg e]
  · rw [if_neg e1]
    have il := kP b l (j / 2) (k / 2) (by omega)
    have ir := kP b r (j / 2) (k / 2) (by omega)
    by_cases e2 : j % 2 = 0
    · rw [if_pos e2,iE,iE]
      by_cases e3 : k = 1
      · rw [if_pos e3,if_neg (by omega),if_pos e3]
      · rw [if_neg e3,if_neg e3]
        by_cases e4 : k % 2 = 0
        · rw [if_pos e4,if_pos e4,il (by omega)]
          by_cases e5 : j = k
          · rw [if_pos e5,if_pos (by omega)]
          · rw [if_neg e5,if_neg (by omega)]
        · rw [if_neg e4,if_neg e4,if_neg (by omega)]
    · rw [if_neg e2,iE,iE]
      by_cases e3 : k = 1
      · rw [if_pos e3,if_neg (by omega),if_pos e3]
      · rw [if_neg e3,if_neg e3]
        by_cases e4 : k % 2 = 0
        · rw [if_pos e4,if_pos e4,if_neg (by omega)]
        · rw [if_neg e4,if_neg e4,ir (by omega)]
          by_cases e5 : j = k
          · rw [if_pos e5,if_pos (by omega)]
          · rw [if_neg e5,if_neg (by omega)]
section
variable {x x' : XH} {i : Nat} {b : Blk} {o : Option Blk} {fr : Fr} {w : World}
theorem dX : x.toH.length = x.n := by simp [XH.toH]
theorem mL (x : XH) (i : Nat) : x.toH[i]? = if i < x.n then some (kA x.t (i + 1)) else none := by
 simp only [XH.toH,List.getElem?_map]
 by_cases h : i < x.n
 · rw [List.getElem?_range h,if_pos h]; rfl
 · rw [List.getElem?_eq_none (by simp; omega),if_neg h]; rfl
theorem mB : x.at_ i = some b ↔ x.toH[i]? = some (some b) := by
 rw [mL]
 show @Bool.rec (fun _ => Option Blk) none (kA x.t (i + 1)) (Nat.ble (i + 1) x.n) = some b ↔ _
 rw [oB]
 by_cases h : i < x.n
 · rw [if_pos (Nat.ble_eq_true_of_le h),if_pos h]; simp
 · rw [if_neg (fun e => h (qE e)),if_neg h]; simp
theorem iH : (x.push b).toH = x.toH ++ [some b] := by
 apply List.ext_getElem?
 intro i
 rw [mL]
 show (if i < x.n + 1 then some (kA (rY x.t (x.n + 1) (some b)) (i + 1)) else none) = _
 rw [kP _ _ _ _ (by omega) (by omega)]
 rcases Nat.lt_trichotomy i x.n with h | h | h
 · rw [if_pos (by omega),if_neg (by omega),qH (by rw [dX]; exact h),mL,if_pos h]
 · subst h
   rw [if_pos (by omega),if_pos rfl,qI (by rw [dX]; omega),dX]; simp
 · rw [if_neg (by omega),List.getElem?_eq_none (by simp [dX]; omega)]
theorem gB : (x.put i o).toH = x.toH.set i o := by
 apply List.ext_getElem?
 intro k
 rw [mL]
 show (if k < x.n then some (kA (rY x.t (i + 1) o) (k + 1)) else none) = _
 rw [kP _ _ _ _ (by omega) (by omega)]
 by_cases h : i = k
 · subst h
   rw [if_pos rfl]
   by_cases h : i < x.n
   · rw [if_pos h,qF (by rw [dX]; exact h)]
   · rw [if_neg h,List.getElem?_eq_none (by rw [List.length_set,dX]; omega)]
 · rw [qB h,mL,if_neg (c := i + 1 = k + 1) (by omega)]
theorem mH {c : List AV} : rW x i = some c ↔ x.toH[i]? = some (some (.row c)) := by
 rw [← mB]
 unfold rW rowBX
 cases x.at_ i with
 | none => simp
 | some b => cases b <;> simp
theorem pN {c : List (AV × AV)} : xmap x i = some c ↔ x.toH[i]? = some (some (.map c)) := by
 rw [← mB]
 unfold xmap mapB_
 cases x.at_ i with
 | none => simp
 | some b => cases b <;> simp
end
theorem fH : ∀ (fr : Fr) (t : Nat),lY fr t = fr.get t
 | [],_ => rfl
 | (k,v) :: r,t => by
  show @Bool.rec (fun _ => AV) (lY r t) v (Nat.beq t k) = if Nat.beq t k then v else Fr.get r t
  rw [oB,fH r t]
theorem bB (o : Opd) (fr : Fr) : oev o fr = o.ev fr := by cases o <;> first | rfl | exact fH _ _
theorem aAz (l : List Opd) (fr : Fr) : evs l fr = l.map (·.ev fr) := by
 induction l with
 | nil => rfl
 | cons o l ih => show oev o fr :: evs l fr = _; rw [bB,ih]; rfl
theorem eQ {v : AV} {a : Int} (h : jO v = some a) : v = .int .i64 a := by
 cases v with
 | int k n => cases k <;> first | (cases h; done) | (cases h; rfl)
 | _ => cases h
theorem dR {v : AV} {a : Bool} (h : dG v = some a) : v = .bool a := by cases v <;> first | (cases h; done) | (cases h; rfl)
theorem gN {v : AV} {a : Pl} (h : gU v = some a) : v = .ptr a := by cases v <;> first | (cases h; done) | (cases h; rfl)
theorem eT {v : AV} {a : List AV} (h : gA v = some a) : v = .agg a := by cases v <;> first | (cases h; done) | (cases h; rfl)
theorem aDt {v : AV} {a : List AV} (h : aDu v = some a) : v = .tup a := by cases v <;> first | (cases h; done) | (cases h; rfl)
theorem rA {v : AV} {a : Nat} (h : xP v = some a) : v = .map a := by cases v <;> first | (cases h; done) | (cases h; rfl)
theorem nP {v : AV} {k : Pl → Nat → Nat → Bool → XR} {z d : XR} {p : AV × XH} (h : zY v k z d = some p) : (∃ q n e f,v = .sl q n e f ∧ k q n e f = some p) ∨ (v = .nilS ∧ z = some p) ∨ d = some p := by
 cases v with
 | sl q n e f => exact .inl ⟨q,n,e,f,rfl,h⟩
 | nilS => exact .inr (.inl ⟨rfl,h⟩)
 | _ => exact .inr (.inr h)
theorem hZ {α β : Type} {n : Option β} {s : α → Option β} {o : Option α} {p : β} (h : @Option.rec α (fun _ => Option β) n s o = some p) : (o = none ∧ n = some p) ∨ ∃ a,o = some a ∧ s a = some p := by
 cases o with
 | none => exact .inl ⟨rfl,h⟩
 | some a => exact .inr ⟨a,rfl,h⟩
theorem aX {α β : Type} {s : α → Option β} {o : Option α} {p : β} (h : @Option.rec α (fun _ => Option β) none s o = some p) : ∃ a,o = some a ∧ s a = some p := by
 cases o with
 | none => cases h
 | some a => exact ⟨a,rfl,h⟩
theorem eS {β : Type} {y : Option β} {b : Bool} {p : β} (h : @Bool.rec (fun _ => Option β) none y b = some p) : b = true ∧ y = some p := by
 cases b with
 | false => cases h
 | true => exact ⟨rfl,h⟩
theorem dZ {x : XH} {v : XA} {p : AV × XH} (h : hG x v = some p) : ∃ u,v = some u ∧ p = (u,x) := by
 obtain ⟨a,e,h⟩ := aX h
 exact ⟨a,e,(Option.some.inj h).symm⟩
theorem wQ (m n : Nat) : sP m n = (m : Int) - n := by
 unfold sP
 rw [oB]
 split
 · rename_i h
   have := qE h
   show ((m - n : Nat) : Int) = _
   omega
 · rename_i h
   have : ¬ n ≤ m := fun e => h (Nat.ble_eq_true_of_le e)
   show Int.negSucc (n - m - 1) = _
   rw [Int.negSucc_eq]; omega
theorem aBC (a b : Int) : iadd a b = a + b := by
 cases a with
 | ofNat m => cases b with
  | ofNat n => show ((m + n : Nat) : Int) = (m : Int) + (n : Int); omega
  | negSucc n => show sP m (n + 1) = (m : Int) + _; rw [wQ,Int.negSucc_eq]; omega
 | negSucc m => cases b with
  | ofNat n => show sP n (m + 1) = _ + (n : Int); rw [wQ,Int.negSucc_eq]; omega
  | negSucc n => show Int.negSucc (m + n + 1) = _; rw [Int.negSucc_eq,Int.negSucc_eq,Int.negSucc_eq]; omega
theorem rE (n : Nat) : tL n = -(n : Int) := by
 cases n with
 | zero => rfl
 | succ m => show Int.negSucc m = _; rw [Int.negSucc_eq]; rfl
theorem aHn (a : Int) : ineg a = -a := by
 cases a with
 | ofNat m => exact rE m
 | negSucc m => show ((m + 1 : Nat) : Int) = _; rw [Int.negSucc_eq]; omega
theorem aHh (a b : Int) : isub a b = a - b := by unfold isub; rw [aBC,aHn]; omega
theorem aHo (a b : Int) : imul a b = a * b := by
 cases a with
 | ofNat m => cases b with
  | ofNat n => exact Int.natCast_mul m n
  | negSucc n => show tL (m * (n + 1)) = (m : Int) * _; rw [rE,Int.negSucc_eq,Int.mul_neg,Int.natCast_mul]; rfl
 | negSucc m => cases b with
  | ofNat n => show tL ((m + 1) * n) = _ * (n : Int); rw [rE,Int.negSucc_eq,Int.neg_mul,Int.natCast_mul]; rfl
  | negSucc n => show (((m + 1) * (n + 1) : Nat) : Int) = _; rw [Int.negSucc_eq,Int.negSucc_eq,Int.neg_mul_neg,Int.natCast_mul]; rfl
theorem lU (a b : Int) : ile a b = decide (a ≤ b) := by
 cases a with
 | ofNat m => cases b with
  | ofNat n =>
   show Nat.ble m n = decide ((m : Int) ≤ (n : Int))
   cases h : Nat.ble m n with
   | true => have := qE h; simp; omega
   | false => have : ¬ m ≤ n := fun e => by rw [Nat.ble_eq_true_of_le e] at h; cases h
              simp; omega
  | negSucc n => show false = decide ((m : Int) ≤ _); rw [Int.negSucc_eq]; simp; omega
 | negSucc m => cases b with
  | ofNat n => show true = decide (_ ≤ (n : Int)); rw [Int.negSucc_eq]; simp; omega
  | negSucc n =>
   show Nat.ble n m = _
   rw [Int.negSucc_eq,Int.negSucc_eq]
   cases h : Nat.ble n m with
   | true => have := qE h; simp; omega
   | false => have : ¬ n ≤ m := fun e => by rw [Nat.ble_eq_true_of_le e] at h; cases h
              simp; omega
theorem aAr (a b : Int) : ieq a b = (a == b) := by
 rw [Bool.eq_iff_iff,beq_iff_eq]
 cases a with
 | ofNat m => cases b with
  | ofNat n => show Nat.beq m n = true ↔ (m : Int) = (n : Int); rw [aL]; omega
  | negSucc n => show false = true ↔ (m : Int) = _; rw [Int.negSucc_eq]; simp; omega
 | negSucc m => cases b with
  | ofNat n => show false = true ↔ _ = (n : Int); rw [Int.negSucc_eq]; simp; omega
  | negSucc n => show Nat.beq m n = true ↔ _; rw [aL,Int.negSucc_eq,Int.negSucc_eq]; omega
theorem pH (b : Bool) : aAK b = !b := by cases b <;> rfl
theorem yH (a : Int) : in64 a = true ↔ -9223372036854775808 ≤ a ∧ a ≤ 9223372036854775807 := by
 cases a with
 | ofNat m =>
  show Nat.ble m 9223372036854775807 = true ↔ -9223372036854775808 ≤ (m : Int) ∧ (m : Int) ≤ 9223372036854775807
  exact ⟨fun h => by have := qE h; omega,fun h => Nat.ble_eq_true_of_le (by omega)⟩
 | negSucc m =>
  show Nat.ble m 9223372036854775807 = true ↔ _
  rw [Int.negSucc_eq]
  exact ⟨fun h => by have := qE h; omega,fun h => Nat.ble_eq_true_of_le (by omega)⟩
theorem mJ {a : Int} {v : AV} (h : wJ a = some v) : dJ .i64 a = some v := by
 obtain ⟨h1,h2⟩ := eS h
 rw [← h2]
 have h3 := (yH a).1 h1
 unfold dJ inK
 rw [if_pos]
 simp only [Bool.and_eq_true,decide_eq_true_eq]
 exact ⟨by show -(2 ^ (64 - 1) : Int) ≤ a; have : (2 ^ (64 - 1) : Int) = 9223372036854775808 := by decide
           omega, by show a ≤ (2 ^ (64 - 1) - 1 : Int); have : (2 ^ (64 - 1) : Int) = 9223372036854775808 := by decide
                     omega⟩
theorem aC8 (a : Int) : aC9 a = some (.int .i64 (IntKind.i64.wrap a)) := by
 unfold aC9
 rw [oB]
 split
 · rename_i h
   have h3 := (yH a).1 h
   have := dV (n := a) (by unfold I64; omega)
   unfold wi at this
   rw [this]
 · rfl
theorem eP {f : Int → Int → XA} {op : BinOp} {x y v : AV} (k : ∀ a b v,f a b = some v → bin op (.int .i64 a) (.int .i64 b) = some v) (h : oS f op x y = some v) : bin op x y = some v := by
 rcases hZ h with ⟨_,h⟩ | ⟨a,e1,h⟩
 · exact h
 · rcases hZ h with ⟨_,h⟩ | ⟨b,e2,h⟩
   · exact h
   · rw [eQ e1,eQ e2]; exact k _ _ _ h
theorem jV {a : Int} {n : Nat} (h : tA a = some n) : a = (n : Int) := by cases a <;> first | (cases h; done) | (cases h; rfl)
theorem aFA {op : BinOp} {x y v : AV} (h : xbin op x y = some v) : bin op x y = some v := by
 cases op
 case add => exact eP (op := .add) (fun a b v e => by rw [aBC] at e; exact mJ e) h
 case sub => exact eP (op := .sub) (fun a b v e => by rw [aHh,aC8] at e; exact e) h
 case mul => exact eP (op := .mul) (fun a b v e => by rw [aHo] at e; exact mJ e) h
 case quo =>
  refine eP (op := .quo) (fun a b v e => ?_) h
  rcases hZ e with ⟨_,e⟩ | ⟨m,e1,e⟩
  · exact e
  · rcases hZ e with ⟨_,e⟩ | ⟨n,e2,e⟩
    · exact e
    · rw [oB] at e
      split at e
      · cases e
      · rename_i hn
        rw [aL] at hn
        have := mJ e
        rw [jV e1,jV e2]
        show (if (n : Int) = 0 then none else dJ .i64 ((m : Int).tdiv n)) = _
        rw [if_neg (by omega)]
        exact this
 case rem =>
  refine eP (op := .rem) (fun a b v e => ?_) h
  rcases hZ e with ⟨_,e⟩ | ⟨m,e1,e⟩
  · exact e
  · rcases hZ e with ⟨_,e⟩ | ⟨n,e2,e⟩
    · exact e
    · rw [oB] at e
      split at e
      · cases e
      · rename_i hn
        rw [aL] at hn
        rw [jV e1,jV e2]
        show (if (n : Int) = 0 then none else some (AV.int .i64 ((m : Int).tmod n))) = _
        rw [if_neg (by omega)]
        exact e
 case and => exact h
 case or => exact h
 case xor => exact h
 case shl => exact h
 case shr => exact h
 case andNot => exact h
 case eql => exact eP (op := .eql) (fun a b v e => by rw [aAr] at e; exact e) h
 case neq => exact eP (op := .neq) (fun a b v e => by rw [aAr,pH] at e; exact e) h
 case lss => exact eP (op := .lss) (fun a b v e => by rw [lU,pH] at e; rw [← e]; show some (AV.bool (decide (a < b))) = _; rw [← decide_not]; simp only [Int.not_le]) h
 case leq => exact eP (op := .leq) (fun a b v e => by rw [lU] at e; exact e) h
 case gtr => exact eP (op := .gtr) (fun a b v e => by rw [lU,pH] at e; rw [← e]; show some (AV.bool (decide (a > b))) = _; rw [← decide_not]; simp only [Int.not_le]) h
 case geq => exact eP (op := .geq) (fun a b v e => by rw [lU] at e; exact e) h
theorem kD : ∀ l : List AV,uI l = l.length
 | [] => rfl
 | _ :: l => by show uI l + 1 = _; rw [kD l]; rfl
theorem oZ : ∀ (l : List AV) (n : Nat),vnth l n = l[n]?
 | [],_ => rfl
 | _ :: _,0 => rfl
 | _ :: l,n + 1 => by show vnth l n = _; rw [oZ l n]; rfl
theorem pU : ∀ {n : Nat} {l d : List AV},wM n l = some d → n ≤ l.length ∧ d = l.drop n
 | 0,l,d,h => by cases h; exact ⟨Nat.zero_le _,rfl⟩
 | n + 1,[],d,h => by cases h
 | n + 1,_ :: l,d,h => by
  obtain ⟨h1,h2⟩ := pU (n := n) (l := l) h
  exact ⟨Nat.succ_le_succ h1,h2⟩
theorem nD {v : AV} {o : Option (List AV)} {d : List AV} (h : yR v o = some d) : ∃ r,o = some r ∧ d = v :: r := by
 cases o with
 | none => cases h
 | some r => cases h; exact ⟨r,rfl,rfl⟩
theorem pT : ∀ {n : Nat} {l d : List AV},wL n l = some d → n ≤ l.length ∧ d = l.take n
 | 0,l,d,h => by cases h; exact ⟨Nat.zero_le _,rfl⟩
 | n + 1,[],d,h => by cases h
 | n + 1,v :: l,d,h => by
  obtain ⟨r,hr,rfl⟩ := nD (v := v) (o := wL n l) h
  obtain ⟨h1,h2⟩ := pT hr
  exact ⟨Nat.succ_le_succ h1,by rw [h2]; rfl⟩
theorem aA0 : ∀ {l c d : List AV},vlay l c = some d → l.length ≤ c.length ∧ d = l ++ c.drop l.length
 | [],c,d,h => by cases h; exact ⟨Nat.zero_le _,rfl⟩
 | x :: l,[],d,h => by cases h
 | x :: l,_ :: c,d,h => by
  obtain ⟨r,hr,rfl⟩ := nD (v := x) (o := vlay l c) h
  obtain ⟨h1,h2⟩ := aA0 hr
  exact ⟨Nat.succ_le_succ h1,by rw [h2]; rfl⟩
theorem uH : ∀ {o : Nat} {l c d : List AV},aCd o l c = some d → o + l.length ≤ c.length ∧ d = bH c o l
 | 0,l,c,d,h => by
  obtain ⟨h1,h2⟩ := aA0 (l := l) (c := c) h
  exact ⟨by omega,by rw [h2]; simp [bH]⟩
 | o + 1,l,[],d,h => by cases h
 | o + 1,l,v :: c,d,h => by
  obtain ⟨r,hr,rfl⟩ := nD (v := v) (o := aCd o l c) h
  obtain ⟨h1,h2⟩ := uH hr
  refine ⟨by simp only [List.length_cons]; omega,?_⟩
  rw [h2]
  simp only [bH,List.take_succ_cons,List.cons_append,show o + 1 + l.length = (o + l.length) + 1 by omega,List.drop_succ_cons]
theorem kE : ∀ l r : List AV,rX l r = l ++ r
 | [],_ => rfl
 | v :: l,r => by show v :: rX l r = _; rw [kE l r]; rfl
theorem aFx (v : AV) : xone v = one v := by cases v <;> rfl
theorem oY : ∀ l : List AV,aCe l = l.all one
 | [] => rfl
 | v :: l => by
  show @Bool.rec (fun _ => Bool) false (aCe l) (xone v) = _
  rw [aFx,oY l]
  cases h : one v <;> simp [h]
theorem nN {v : AV} {l : List AV} (h : lC v = some l) : cellsOf v = some l := by
 cases v with
 | undef => cases h
 | tup l => cases h
 | agg c =>
  obtain ⟨h1,h2⟩ := eS (y := some c) (b := aCe c) h
  cases h2
  rw [oY] at h1
  simp only [cellsOf,h1,if_true]
 | _ => exact h
section
variable {w : World} {x x' : XH} {v : AV} {fr : Fr} {p : Pl} {n es : Nat} {l : List AV}
theorem oV (h : uC w x p n = some l) : rdn w x.toH p n = some l := by
 cases p with
 | old a => exact h
 | own i o =>
  obtain ⟨c,hc,h⟩ := aX (o := rW x i) h
  obtain ⟨d,hd,h⟩ := aX (o := wM o c) h
  obtain ⟨h1,rfl⟩ := pU hd
  obtain ⟨h2,rfl⟩ := pT h
  rw [List.length_drop] at h2
  simp only [rdn,mH.1 hc,if_pos (show o + n ≤ c.length by omega)]
theorem xrd_eq (h : xrd w x p = some v) : rd w x.toH p = some v := by
 cases p with
 | old a => exact h
 | own i o =>
  obtain ⟨c,hc,h⟩ := aX (o := rW x i) h
  rw [oZ] at h
  simp only [rd,mH.1 hc]; exact h
theorem aAX {n : Option Nat} (h : xrdv w x p n = some v) : rdv w x.toH p n = some v := by
 cases n with
 | none => exact xrd_eq h
 | some n =>
  obtain ⟨l,hl,h⟩ := aX (o := uC w x p n) h
  cases h
  simp only [rdv,oV hl]; rfl
theorem aFL {r : AV × XH} (h : stoP p n l x = some r) : ∃ i o c,p = .own i o ∧ x.toH[i]? = some (some (.row c)) ∧ (l.length = n ∧ o + n ≤ c.length) ∧ r = (.undef,x.put i (some (.row (bH c o l)))) := by
 cases p with
 | old a => cases h
 | own i o =>
  obtain ⟨h1,h⟩ := eS (b := Nat.beq (uI l) n) h
  obtain ⟨c,hc,h⟩ := aX (o := rW x i) h
  obtain ⟨d,hd,h⟩ := aX (o := aCd o l c) h
  obtain ⟨h2,rfl⟩ := uH hd
  rw [kD,aL] at h1
  cases h
  exact ⟨i,o,c,rfl,mH.1 hc,⟨h1,by omega⟩,rfl⟩
theorem vH {p : Pl} {a b : Nat} (h : esb p a b = true) : jI p a b = true := by
 cases p with
 | old a => rfl
 | own i o =>
  have := aL.1 (show Nat.beq a b = true from h)
  simp [jI,this]
theorem mR (p : Pl) (n : Nat) : xH p n = p.add n := by cases p <;> rfl
theorem pQ : ∀ {ps : List (Nat × Nat × Opd)} {c d : List AV},wH ps fr c = some d → dE c (ps.map fun q => (q.1,q.2.1,q.2.2.ev fr)) = some d
 | [],c,d,h => h
 | q :: ps,c,d,h => by
  obtain ⟨l,hl,h⟩ := aX (o := lC (oev q.2.2 fr)) h
  obtain ⟨h1,h⟩ := eS (b := Nat.beq (uI l) q.2.1) h
  obtain ⟨e,he,h⟩ := aX (o := aCd q.1 l c) h
  obtain ⟨h2,rfl⟩ := uH he
  rw [kD,aL] at h1
  have hl2 := nN hl
  rw [bB] at hl2
  simp only [List.map_cons,dE,hl2]
  rw [if_pos ⟨h1,by omega⟩]
  exact pQ h
theorem pL (z : List AV) : ∀ n,wC z n = dL z n
 | 0 => rfl
 | n + 1 => by show rX z (wC z n) = _; rw [kE,pL z n]; rfl
theorem oC (h : asN v = some n) : bV v = some n := by
 rcases hZ h with ⟨_,h⟩ | ⟨a,ha,h⟩
 · exact h
 · rw [eQ ha,jV h]
   simp only [bV]
   rw [if_pos (by omega)]; simp
theorem mI {c : List AV} {len : Nat} {full : Bool} {r : AV × XH} (h : wE x c len es full = some r) : eO x.toH c len es full = some (r.1,r.2.toH) := by
 cases h
 simp only [eO,iH,dX]
theorem aEP {a b : Bool} (h : @Bool.rec (fun _ => Bool) false b a = true) : a = true ∧ b = true := by
 cases a with
 | false => cases h
 | true => exact ⟨rfl,h⟩
theorem aFu {y : AV} {k : Nat → List AV → XR} {r : AV × XH} (h : xsrc w x es y k = some r) : ∃ n l,fK w x.toH es y = some (n,l) ∧ k n l = some r := by
 rcases nP h with ⟨q,n,e,f,rfl,h⟩ | ⟨rfl,h⟩ | h
 · obtain ⟨h1,h⟩ := eS (b := esb q es e) h
   obtain ⟨l,hl,h⟩ := aX (o := uC w x q (Nat.mul n es)) h
   have h2 : rdn w x.toH q (n * es) = some l := oV hl
   refine ⟨n,l,?_,h⟩
   simp only [fK,vH h1,if_true,h2]; rfl
 · exact ⟨0,[],rfl,h⟩
 · cases h
theorem aDs : (2 : Nat) ^ 40 = 1099511627776 := by decide
theorem aFB {a y : AV} {b : Nat} {r : AV × XH} (h : xapp w x es b a y = some r) : dS w x.toH es b a y = some (r.1,r.2.toH) := by
 obtain ⟨n,l,hs,h⟩ := aFu h
 simp only [dS,hs,Option.bind_some]
 cases hn : Nat.beq n 0 with
 | true =>
  rw [hn] at h
  rw [if_pos (aL.1 hn)]
  rcases nP (v := a) h with ⟨q,k,e,f,rfl,h⟩ | ⟨rfl,h⟩ | h
  · cases h; rfl
  · cases h; rfl
  · cases h
 | false =>
  rw [hn] at h
  have hn' : ¬ n = 0 := fun e => by rw [e] at hn; cases hn
  rw [if_neg hn']
  rcases nP (v := a) h with ⟨q,k,e,f,rfl,h⟩ | ⟨rfl,h⟩ | h
  · obtain ⟨hc,h⟩ := eS h
    obtain ⟨h1,hc⟩ := aEP hc
    obtain ⟨h2,h3⟩ := aEP hc
    rw [oY] at h3
    have h2' : (k + n) * (b + 1) ≤ 2 ^ 40 := by rw [aDs]; exact qE h2
    simp only
    rw [if_pos ⟨vH h1,h2',h3⟩]
    cases f with
    | true =>
     obtain ⟨old,ho,h⟩ := aX (o := uC w x q (Nat.mul k es)) h
     have ho' : rdn w x.toH q (k * es) = some old := oV ho
     rw [kE] at h
     rw [if_pos rfl,ho']
     exact mI h
    | false =>
     rw [if_neg (by simp)]
     cases q with
     | old a => cases h
     | own i o =>
      obtain ⟨old,ho,h⟩ := aX (o := uC w x (.own i o) (Nat.mul k es)) h
      have ho' : rdn w x.toH (.own i o) (k * es) = some old := oV ho
      cases h
      simp only [ho',Option.bind_some,iH,gB,dX,kE]
      rfl
  · obtain ⟨hc,h⟩ := eS h
    obtain ⟨h2,h3⟩ := aEP hc
    rw [oY] at h3
    have h2' : n * (b + 1) ≤ 2 ^ 40 := by rw [aDs]; exact qE h2
    simp only
    rw [if_pos ⟨h2',h3⟩]
    exact mI h
  · cases h
theorem aFy {i : Bool} {a b : AV} {t : Bool} (h : xceq i a b = some t) : ceq i a b = some t := by
 rcases hZ h with ⟨_,h⟩ | ⟨m,e1,h⟩
 · exact h
 · rcases hZ h with ⟨_,h⟩ | ⟨n,e2,h⟩
   · exact h
   · obtain ⟨h1,h⟩ := eS h
     rw [eQ e1,eQ e2]
     subst h1
     rw [aAr] at h
     exact h
theorem fst_eq {o : Option Bool} {b t : Bool} (h : fst_ o b = some t) : o.isSome = true ∧ t = b := by
 cases o with
 | none => cases h
 | some a => cases h; exact ⟨rfl,rfl⟩
theorem jS : ∀ {s : List Bool} {a b : List AV} {t : Bool},wI s a b = some t → cF s a b = some t
 | [],a,b,t,h => h
 | i :: s,[],b,t,h => h
 | i :: s,u :: a,[],t,h => h
 | i :: s,u :: a,v :: b,t,h => by
  obtain ⟨e,he,h⟩ := aX (o := xceq i u v) h
  have he' := aFy he
  cases e with
  | true => simp only [cF,he']; exact jS h
  | false =>
   obtain ⟨h1,rfl⟩ := fst_eq (o := wI s a b) h
   simp only [cF,he']
   obtain ⟨t,ht⟩ := Option.isSome_iff_exists.1 h1
   rw [jS ht]; rfl
theorem uE {s : Bool × List Bool} {a b : AV} {t : Bool} (h : xkeq s a b = some t) : keq s a b = some t := by
 obtain ⟨s1,s2⟩ := s
 cases s1 with
 | false => exact jS h
 | true =>
  obtain ⟨a',ha,h⟩ := aX (o := gA a) h
  obtain ⟨b',hb,h⟩ := aX (o := gA b) h
  rw [eT ha,eT hb]
  exact jS h
theorem pP {s : Bool × List Bool} {k : AV} : ∀ {es : List (AV × AV)} {i : Nat} {r : Option (Nat × AV)},aDj s k es i = some r → fO s k es i = some r
 | [],i,r,h => h
 | e :: es,i,r,h => by
  obtain ⟨t,ht,h⟩ := aX (o := xkeq s k e.1) h
  simp only [fO,uE ht]
  cases t with
  | true => exact h
  | false => exact pP h
theorem aAi (ok : Bool) (v : AV) (b : Bool) : okV ok v b = if ok then .tup [v,.bool b] else v := by cases ok <;> rfl
theorem aAm {z : AV} {ok : Bool} {m u : AV} (h : aBv z ok m = some u) : m = .nilM ∧ u = okV ok z false := by cases m <;> first | (cases h; done) | (cases h; exact ⟨rfl,rfl⟩)
theorem aDf {s : Bool × List Bool} {z : AV} {ok : Bool} {m k : Opd} {r : AV × XH} (h : xlook s z ok x (m.ev fr) (k.ev fr) = some r) : aop w (.look s z ok m k) fr x.toH = some (r.1,r.2.toH) := by
 obtain ⟨t,ht,h⟩ := aX h
 simp only [aop,uE ht,Option.isNone_some,Bool.false_eq_true,if_false]
 rcases hZ h with ⟨_,h⟩ | ⟨i,hi,h⟩
 · obtain ⟨u,hu,rfl⟩ := dZ h
   obtain ⟨h1,rfl⟩ := aAm hu
   rw [h1,aAi]
 · rw [rA hi]
   obtain ⟨es,hes,h⟩ := aX h
   obtain ⟨q,hq,h⟩ := aX h
   simp only [pN.1 hes,pP hq]
   cases q with
   | none => cases h; simp only [aAi]
   | some q => cases h; simp only [aAi]
theorem aBL : ∀ (l : List (AV × AV)) (n : Nat) (y : AV × AV),eset l n y = l.set n y
 | [],_,_ => rfl
 | _ :: _,0,_ => rfl
 | a :: l,n + 1,y => by show a :: eset l n y = _; rw [aBL l n y]; rfl
theorem aBN : ∀ (l : List (AV × AV)) (y : AV × AV),eapp l y = l ++ [y]
 | [],_ => rfl
 | a :: l,y => by show a :: eapp l y = _; rw [aBN l y]; rfl
theorem aDe {s : Bool × List Bool} {m k u : Opd} {r : AV × XH} (h : xmput s x (m.ev fr) (k.ev fr) (u.ev fr) = some r) : aop w (.mput s m k u) fr x.toH = some (r.1,r.2.toH) := by
 obtain ⟨t,ht,h⟩ := aX h
 simp only [aop,uE ht,Option.isNone_some,Bool.false_eq_true,if_false]
 obtain ⟨i,hi,h⟩ := aX h
 rw [rA hi]
 obtain ⟨es,hes,h⟩ := aX h
 obtain ⟨q,hq,h⟩ := aX h
 simp only [pN.1 hes,pP hq]
 cases q with
 | none => cases h; simp only [gB,aBN]
 | some q => cases h; simp only [gB,aBL]
theorem aBR (n b : Bool) : bxor n b = if n then !b else b := by cases n <;> cases b <;> rfl
theorem aBS (a b : Bool) : beqb a b = (a == b) := by cases a <;> cases b <;> rfl
theorem aEb {sl : Bool} {u : AV} {t : Bool} (h : aEc sl u = some t) : jE sl u = some t := by
 cases u <;> first | (cases h; done) | (cases sl <;> exact h)
theorem aEd {u : AV} {t : Bool} (h : aEe u = some t) : nV u = some t := by cases u <;> first | (cases h; done) | exact h
theorem vA {neq : Bool} {o : Option Bool} {r : AV × XH} (h : negO neq o x = some r) : ∃ b,o = some b ∧ r = (.bool (if neq then !b else b),x) := by
 obtain ⟨b,hb,h⟩ := aX h
 cases h
 exact ⟨b,hb,by rw [aBR]⟩
theorem xun_eq {op : UnOp} {u v : AV} (h : xun op u = some v) : pV op u = some v := by
 cases op with
 | not =>
  rcases hZ (o := dG u) h with ⟨_,h⟩ | ⟨b,hb,h⟩
  · exact h
  · rw [dR hb]; rw [pH] at h; exact h
 | _ => exact h
theorem aHr {k : IntKind} {a n : Int} (h : i64P k a = some n) : k = .i64 ∧ n = a := by cases k <;> first | (cases h; done) | (cases h; exact ⟨rfl,rfl⟩)
theorem aDl {k : IntKind} {u v : AV} (h : xconv k u = some v) : aBO k u = some v := by
 rcases hZ h with ⟨_,h⟩ | ⟨a,ha,h⟩
 · exact h
 · rcases hZ h with ⟨_,h⟩ | ⟨n,hn,h⟩
   · exact h
   · obtain ⟨rfl,rfl⟩ := aHr hn
     rw [eQ ha]
     exact mJ h
theorem zO {m : Bool} : ∀ {l : List AV} {u v : AV},xmm m l u = some v → mm m u l = some v
 | [],u,v,h => by cases u <;> exact h
 | y :: l,u,v,h => by
  rcases hZ (o := jO u) h with ⟨_,h⟩ | ⟨a,ha,h⟩
  · exact h
  · rcases hZ (o := jO y) h with ⟨_,h⟩ | ⟨b,hb,h⟩
    · exact h
    · rw [eQ ha,eQ hb]
      cases m with
      | true =>
       have := zO (m := true) (l := l) (u := .int .i64 (@Bool.rec (fun _ => Int) b a (ile a b))) h
       rw [oB,lU] at this
       simp only [mm,if_true]
       rw [← this]
       congr 2
       by_cases hab : a ≤ b
       · rw [if_neg (by omega),if_pos (by simpa using hab)]
       · rw [if_pos (by omega),if_neg (by simpa using hab)]
      | false =>
       have := zO (m := false) (l := l) (u := .int .i64 (@Bool.rec (fun _ => Int) b a (ile b a))) h
       rw [oB,lU] at this
       simp only [mm,Bool.false_eq_true,if_false]
       rw [← this]
       congr 2
       by_cases hab : b ≤ a
       · rw [if_neg (by omega),if_pos (by simpa using hab)]
       · rw [if_pos (by omega),if_neg (by simpa using hab)]
theorem yZ {o : Option Opd} {d n : Nat} (h : aEO o d fr = some n) : (match o with | some x => bV (x.ev fr) | none => some d) = some n := by
 cases o with
 | none => exact h
 | some o => have := oC (v := oev o fr) h; rw [bB] at this; exact this
theorem lD {lo hi mx : Option Opd} {b : Nat × Nat × Option Nat} (h : oW fr n lo hi mx = some b) : bR fr n lo hi mx = some b := by
 cases mx with
 | some m => exact h
 | none =>
  obtain ⟨a,ha,h⟩ := aX h
  obtain ⟨c,hc,h⟩ := aX h
  obtain ⟨h1,h⟩ := eS h
  obtain ⟨h2,h⟩ := eS h
  cases h
  have e1 := yZ ha
  have e2 := yZ hc
  cases lo <;> cases hi <;> simp only [Option.some.injEq] at e1 e2 <;> (try subst e1) <;> (try subst e2) <;> (try simp only [bR]) <;> (try simp only [e1]) <;> (try simp only [e2]) <;> rw [if_pos ⟨qE h1,qE h2⟩]
theorem aBU (a b : Bool) : band a b = (a && b) := by cases a <;> cases b <;> rfl
theorem nbeq (a b : Nat) : Nat.beq a b = (a == b) := by
 cases h : Nat.beq a b with
 | true => rw [aL.1 h]; simp
 | false =>
  have : a ≠ b := fun e => by rw [e,Nat.beq_refl] at h; cases h
  simp [this]
theorem wG (m : Option Nat) (hh : Nat) (d : Bool) : aDi m hh d = dU m hh d := by
 cases m with
 | none => rfl
 | some m => exact nbeq m hh
theorem wD {off : Nat} {n : Option Nat} (h : aDc l off n = some v) : pickAgg l off n = some v := by
 cases n with
 | none => exact (oZ l off).symm.trans h
 | some n =>
  rcases hZ (o := wM off l) h with ⟨_,h⟩ | ⟨d,hd,h⟩
  · exact h
  · rcases hZ (o := wL n d) h with ⟨_,h⟩ | ⟨r,hr,h⟩
    · exact h
    · rw [← h,(pT hr).2,(pU hd).2]; rfl
theorem aAl {j n : Nat} (h : ltN j n = true) : j < n := qE h
theorem aCs {u v : AV} (h : aEa u = some v) : aAj u = some v := by
 rcases hZ h with ⟨_,h⟩ | ⟨p,hp,h⟩
 · exact h
 · rw [gN hp]; exact h
theorem bandI {a b : Bool} (h : band a b = true) : a = true ∧ b = true := by rw [aBU,Bool.and_eq_true] at h; exact h
theorem aBM : ∀ l : List (AV × AV),elen l = l.length
 | [] => rfl
 | _ :: l => by show elen l + 1 = _; rw [aBM l]; rfl
theorem aCw {m u : AV} (h : aEt m = some u) : m = .nilM ∧ u = aCF 0 := by cases m <;> first | (cases h; done) | (cases h; exact ⟨rfl,rfl⟩)
theorem aDd {o : MOp} {r : AV × XH} (h : xop o w fr x = some r) : aop w o fr x.toH = some (r.1,r.2.toH) := by
 cases o
 case mov a => cases h; simp only [aop,bB]
 case pick c a b =>
  obtain ⟨t,ht,h⟩ := aX (o := dG (oev c fr)) h
  cases h
  have := dR ht
  rw [bB] at this
  simp only [aop,this,bB]
  cases t <;> rfl
 case box a n =>
  obtain ⟨l,hl,h⟩ := aX (o := lC (oev a fr)) h
  obtain ⟨h1,h⟩ := eS h
  cases h
  have := nN hl
  rw [bB] at this
  rw [kD,aL] at h1
  simp only [aop,this,if_pos h1,dX,iH]
 case alloc z => cases h; simp only [aop,dX,iH]
 case build z ps =>
  obtain ⟨c,hc,h⟩ := aX (o := wH ps fr z) h
  cases h
  have := pQ hc
  simp only [aop]
  rw [this]
 case bslice es z len ps =>
  obtain ⟨c,hc,h⟩ := aX (o := wH ps fr (wC z len)) h
  have := pQ hc
  rw [pL] at this
  simp only [aop]
  rw [this]
  exact mI h
 case load a n =>
  obtain ⟨p,hp,h⟩ := aX (o := gU (oev a fr)) h
  obtain ⟨u,hu,rfl⟩ := dZ h
  have := gN hp
  rw [bB] at this
  simp only [aop,this,aAX hu,Option.bind_some]
 case store a u n =>
  obtain ⟨p,hp,h⟩ := aX (o := gU (oev a fr)) h
  obtain ⟨l,hl,h⟩ := aX (o := lC (oev u fr)) h
  have e1 := gN hp
  have e2 := nN hl
  rw [bB] at e1 e2
  obtain ⟨i,o,c,rfl,hc,hb,rfl⟩ := aFL h
  simp only [aop,e1,e2,hc,if_pos hb,gB]
 case nilck a =>
  obtain ⟨u,hu,rfl⟩ := dZ h
  have := aCs hu
  rw [bB] at this
  unfold aAj at this
  simp only [aop]
  split at this
  · rename_i e
    split at this <;> first | (rename_i e2; simp only [Option.some.injEq] at this; subst this; rw [e]; simp only [e2]) | cases this
  · cases this
 case bin op a b =>
  obtain ⟨u,hu,rfl⟩ := dZ h
  have := aFA hu
  rw [bB,bB] at this
  simp only [aop,this,Option.bind_some]
 case eqb neq a b =>
  obtain ⟨p,hp,h⟩ := aX (o := dG (oev a fr)) h
  obtain ⟨q,hq,h⟩ := aX (o := dG (oev b fr)) h
  cases h
  have e1 := dR hp
  have e2 := dR hq
  rw [bB] at e1 e2
  simp only [aop,e1,e2,aBR,aBS]
 case eqag s neq a b =>
  obtain ⟨p,hp,h⟩ := aX (o := gA (oev a fr)) h
  obtain ⟨q,hq,h⟩ := aX (o := gA (oev b fr)) h
  obtain ⟨t,ht,rfl⟩ := vA h
  have e1 := eT hp
  have e2 := eT hq
  rw [bB] at e1 e2
  simp only [aop,e1,e2,jS ht,Option.bind_some]
 case eqnil sl neq a =>
  obtain ⟨t,ht,rfl⟩ := vA (o := aEc sl (oev a fr)) h
  rw [bB] at ht
  simp only [aop,aEb ht,Option.bind_some]
 case un op a =>
  obtain ⟨u,hu,rfl⟩ := dZ h
  have := xun_eq hu
  rw [bB] at this
  simp only [aop,this,Option.bind_some]
 case conv k a =>
  obtain ⟨u,hu,rfl⟩ := dZ h
  have := aDl hu
  rw [bB] at this
  unfold aBO at this
  simp only [aop]
  split at this
  · rename_i e; rw [e]; simp only [this,Option.bind_some]
  · cases this
 case mkif t a => cases h; simp only [aop,bB]
 case mkfn f a b => cases h; simp only [aop,aAz]
 case mkmap => cases h; simp only [aop,dX,iH]
 case mksl es z b len cap =>
  obtain ⟨p,hp,h⟩ := aX (o := asN (oev len fr)) h
  obtain ⟨q,hq,h⟩ := aX (o := asN (oev cap fr)) h
  obtain ⟨hc,h⟩ := eS h
  obtain ⟨h1,h2⟩ := bandI hc
  have e1 := oC hp
  have e2 := oC hq
  rw [bB] at e1 e2
  rw [pL,nbeq] at h
  simp only [aop,e1,e2]
  rw [if_pos ⟨qE h1,by rw [aDs]; exact qE h2⟩]
  exact mI h
 case slc es a lo hi mx =>
  rcases nP (v := oev a fr) h with ⟨q,n,e,f,ha,h⟩ | ⟨ha,h⟩ | h
  · obtain ⟨h1,h⟩ := eS h
    obtain ⟨b,hb,h⟩ := aX h
    cases h
    rw [bB] at ha
    simp only [aop,ha,vH h1,if_true,lD hb,Option.bind_some,mR,wG,aBU,nbeq]
    rfl
  · obtain ⟨b,hb,h⟩ := aX h
    cases h
    rw [bB] at ha
    simp only [aop,ha,lD hb,Option.bind_some]
  · cases h
 case slca n es a lo hi mx =>
  obtain ⟨p,hp,h⟩ := aX (o := gU (oev a fr)) h
  have e1 := gN hp
  rw [bB] at e1
  cases p with
  | old a => cases h
  | own i o =>
   obtain ⟨c,hc,h⟩ := aX (o := rW x i) h
   obtain ⟨h1,h⟩ := eS h
   obtain ⟨b,hb,h⟩ := aX h
   cases h
   rw [kD] at h1
   simp only [aop,e1,mH.1 hc]
   have h1' : o + n * es ≤ c.length := qE h1
   rw [if_pos h1']
   simp only [lD hb,Option.bind_some,wG,nbeq]
   rfl
 case addr a off =>
  obtain ⟨p,hp,h⟩ := aX (o := gU (oev a fr)) h
  cases h
  have e1 := gN hp
  rw [bB] at e1
  simp only [aop,e1,mR]
 case fld a off n =>
  obtain ⟨p,hp,h⟩ := aX (o := gA (oev a fr)) h
  obtain ⟨u,hu,rfl⟩ := dZ h
  have e1 := eT hp
  rw [bB] at e1
  simp only [aop,e1,wD hu,Option.bind_some]
 case idxs es a i =>
  rcases nP (v := oev a fr) h with ⟨q,n,e,f,ha,h⟩ | ⟨ha,h⟩ | h
  · obtain ⟨j,hj,h⟩ := aX h
    obtain ⟨h1,h⟩ := eS h
    cases h
    obtain ⟨h1,h2⟩ := bandI h1
    have e2 := oC hj
    rw [bB] at ha e2
    simp only [aop,ha,e2,mR]
    rw [if_pos ⟨vH h1,aAl h2⟩]; rfl
  · cases h
  · cases h
 case idxa n es a i =>
  obtain ⟨p,hp,h⟩ := aX (o := gU (oev a fr)) h
  obtain ⟨j,hj,h⟩ := aX h
  obtain ⟨h1,h⟩ := eS h
  cases h
  have e1 := gN hp
  have e2 := oC hj
  rw [bB] at e1 e2
  simp only [aop,e1,e2,mR]
  rw [if_pos (aAl h1)]; rfl
 case idx n es agg a i =>
  obtain ⟨p,hp,h⟩ := aX (o := gA (oev a fr)) h
  obtain ⟨j,hj,h⟩ := aX h
  obtain ⟨h1,h⟩ := eS h
  obtain ⟨u,hu,rfl⟩ := dZ h
  have e1 := eT hp
  have e2 := oC hj
  rw [bB] at e1 e2
  have e3 := wD hu
  simp only [aop,e1,e2]
  rw [if_pos (aAl h1)]
  cases agg with
  | true => have e4 : pickAgg p (j * es) (some es) = some u := e3
            rw [if_pos rfl,e4]; rfl
  | false => have e4 : pickAgg p (j * es) none = some u := e3
             rw [if_neg (by simp),e4]; rfl
 case look s z ok a k => exact aDf (r := r) (by rw [← bB,← bB]; exact h)
 case mput s a k u => exact aDe (r := r) (by rw [← bB,← bB,← bB]; exact h)
 case ext a i =>
  obtain ⟨p,hp,h⟩ := aX (o := aDu (oev a fr)) h
  obtain ⟨u,hu,rfl⟩ := dZ h
  have e1 := aDt hp
  rw [bB] at e1
  rw [oZ] at hu
  simp only [aop,e1,hu,Option.bind_some]
 case len a =>
  rcases nP (v := oev a fr) h with ⟨q,n,e,f,ha,h⟩ | ⟨ha,h⟩ | h
  · cases h; rw [bB] at ha; simp only [aop,ha]; rfl
  · cases h; rw [bB] at ha; simp only [aop,ha]; rfl
  · cases h
 case lenm a =>
  rcases hZ (o := xP (oev a fr)) h with ⟨_,h⟩ | ⟨i,hi,h⟩
  · obtain ⟨u,hu,rfl⟩ := dZ h
    obtain ⟨h1,rfl⟩ := aCw hu
    rw [bB] at h1
    simp only [aop,h1]; rfl
  · obtain ⟨es,hes,h⟩ := aX h
    cases h
    have := rA hi
    rw [bB] at this
    simp only [aop,this,pN.1 hes,aBM]; rfl
 case lena n => cases h; simp only [aop]; rfl
 case app es z b a y =>
  have := aFB (w := w) (x := x) (es := es) (b := b) (a := oev a fr) (y := oev y fr) (r := r) h
  rw [bB,bB] at this
  exact this
 case minmax m l =>
  have h' : @List.rec AV (fun _ => XR) none (fun v r _ => hG x (xmm m r v)) (evs l fr) = some r := h
  rw [aAz] at h'
  simp only [aop]
  cases hl : l.map (·.ev fr) with
  | nil => rw [hl] at h'; cases h'
  | cons v k =>
   rw [hl] at h'
   obtain ⟨u,hu,rfl⟩ := dZ h'
   simp only [zO hu,Option.bind_some]
 case eqni neq a =>
  obtain ⟨t,ht,rfl⟩ := vA (o := aEe (oev a fr)) h
  rw [bB] at ht
  simp only [aop,aEd ht,Option.bind_some]
 case tass t z ok a =>
  obtain ⟨u,hu,rfl⟩ := dZ h
  rw [bB] at hu
  simp only [aop,hu,Option.bind_some]
 case copy es a b => cases h
 case panic a => cases h
 case defer f as => cases h
 case recov => cases h
end
noncomputable section
def XEv.ev (X : XEv) : Ev := ⟨X.w0,fun f => tget X.tab (f + 1),fun f as h => (X.orc f as).map fun v => (v,h),X.prm,fun _ _ _ _ => none,fun _ => none,false⟩
end
def oE (c : iS) (c' : AV → List AV → aA → Option (AV × aA)) : Prop := ∀ fv as x r,c fv as x = some r → c' fv as x.toH = some (r.1,r.2.toH)
section
variable {w : World} {c : iS} {c' : AV → List AV → aA → Option (AV × aA)} {fr : Fr} {x : XH}
theorem aFI {v : AV} (h : tupE v = true) : v = .tup [] := by
 cases v with
 | tup l => cases l with
  | nil => rfl
  | cons => cases h
 | _ => cases h
theorem uD (d : Option Nat) (v : AV) (fr : Fr) : xput d v fr = fr.put d v := by cases d <;> rfl
theorem gK_eq {g : Option (Nat × Bool)} {yes no : Fr → XO} {p : Fr × XH} (h : gK g fr yes no = some p) :
 (∃ fr1,gO g fr = some (true,fr1) ∧ yes fr1 = some p) ∨ ∃ fr1,gO g fr = some (false,fr1) ∧ no fr1 = some p := by
 cases g with
 | none => exact .inl ⟨fr,rfl,h⟩
 | some q =>
  rcases hZ (o := dG (lY fr q.1)) h with ⟨_,h⟩ | ⟨t,ht,h⟩
  · obtain ⟨h1,h⟩ := eS h
    have := aFI h1
    rw [fH] at this
    exact .inr ⟨fr,by simp only [gO,this],h⟩
  · have e := dR ht
    rw [fH] at e
    rw [oB,aBS] at h
    by_cases hb : (t == q.2) = true
    · rw [if_pos hb] at h
      exact .inl ⟨_,by simp only [gO,e,hb],h⟩
    · rw [if_neg hb] at h
      exact .inr ⟨_,by simp only [gO,e,Bool.eq_false_iff.2 hb],h⟩
theorem aA8 {d : Option Nat} {o : XR} {p : Fr × XH} (h : setR d fr o = some p) : ∃ v y,o = some (v,y) ∧ p = (fr.put d v,y) := by
 obtain ⟨q,hq,h⟩ := aX h
 cases h
 exact ⟨_,_,hq,by rw [uD]⟩
theorem xI_eq (hc : oE c c') {i : MIx} {p : Fr × XH} (h : xI i w c fr x = some p) : evI w c' fr x.toH i = some (p.1,p.2.toH) := by
 cases i with
 | op d g o =>
  rcases gK_eq (g := g) h with ⟨fr1,hg,h⟩ | ⟨fr1,hg,h⟩
  · obtain ⟨v,y,hv,rfl⟩ := aA8 h
    simp only [evI,hg,aDd hv]
  · cases h
    simp only [evI,hg,uD]
 | call d g f as =>
  rcases gK_eq (g := g) h with ⟨fr1,hg,h⟩ | ⟨fr1,hg,h⟩
  · obtain ⟨v,y,hv,rfl⟩ := aA8 h
    have := hc _ _ _ _ hv
    rw [bB,aAz] at this
    simp only [evI,hg]
    rw [this]
  · cases h
    simp only [evI,hg,uD]
theorem aDm (hc : oE c c') : ∀ {l : List MIx} {fr : Fr} {x : XH} {p : Fr × XH},xO l w c fr x = some p → evO w c' l fr x.toH = some (p.1,p.2.toH)
 | [],fr,x,p,h => by cases h; rfl
 | i :: l,fr,x,p,h => by
  obtain ⟨q,hq,h⟩ := aX (o := xI i w c fr x) h
  simp only [evO,xI_eq hc hq]
  exact aDm hc (l := l) h
theorem xA_eq {lp : List MIx} : ∀ {us : List Nat},xA w lp fr x us = true → evA w lp fr x.toH us = true
 | [],_ => rfl
 | u :: us,h => by
  simp only [xA,Bool.and_eq_true] at h
  simp only [evA,Bool.and_eq_true]
  refine ⟨?_,xA_eq h.2⟩
  have h := h.1
  split at h
  · rename_i t g o hu
    rw [hu]
    simp only
    split at h
    · rename_i hw
      rw [hw]
      simp only
      split at h
      · rename_i p hp
        rw [aDd hp]
        rw [fH] at h
        exact h
      · cases h
    · rename_i hw
      rw [hw]
      rw [fH] at h
      exact h
    · cases h
  · cases h
theorem xW_eq (hc : oE c c') {lp : List MIx} {R : List (List Nat)} : ∀ {is : List Nat} {fr : Fr} {x : XH} {p : Fr × XH},xW w c lp R is fr x = some p → evW w c' lp R is fr x.toH = some (p.1,p.2.toH)
 | [],fr,x,p,h => by cases h; rfl
 | i :: is,fr,x,p,h => by
  simp only [xW] at h
  split at h
  · rename_i y hy
    split at h
    · rename_i q hq
      split at h
      · rename_i hA
        simp only [evW,hy,xI_eq hc hq,xA_eq hA]
        exact xW_eq hc h
      · cases h
    · cases h
  · cases h
noncomputable def lN (p : Exit × Fr × XH) : Exit × Fr × aA := (p.1,p.2.1,p.2.2.toH)
theorem pM {o : XO} {p : Exit × Fr × XH} (h : aAY o = some p) : ∃ q,o = some q ∧ p = (.normal,q) := by
 obtain ⟨q,hq,h⟩ := aX h
 cases h
 exact ⟨q,hq,rfl⟩
theorem xD_eq (hc : oE c c') {l : List MIx} {bef : List (List Nat)} {π : List Nat} {R : List (List Nat)} {p : Exit × Fr × XH} (h : xD w c l bef π R fr x = some p) : evD w c' l bef π R fr x.toH = some (lN p) := by
 simp only [xD] at h
 split at h
 · rename_i lp hlp
   split at h
   · rename_i hb
     obtain ⟨q,hq,rfl⟩ := pM h
     unfold xDok at hb
     simp only [evD,hlp,hb,xW_eq hc hq]
     rfl
   · cases h
 · cases h
theorem aCI (v : AV) (k : AV → Fr) : aAv v k = k v := by cases v <;> rfl
theorem zP : ∀ (l : List Nat) (fr : Fr),xkp l fr = gJ fr l
 | [],_ => rfl
 | t :: l,fr => by
  show aAv (lY fr t) (fun v => (t,v) :: xkp l fr) = _
  rw [aCI,fH,zP l fr]; rfl
theorem aEH {e : Exit} {p k : dN} {r : Exit × Fr × XH} (h : exK e p k = some r) : (e = .normal ∧ k = some r) ∨ (e ≠ .normal ∧ p = some r) := by
 cases e <;> first | exact .inl ⟨rfl,h⟩ | exact .inr ⟨by simp,h⟩
theorem aDn {body : Fr → XH → dN} {body' : Fr → aA → Out} {keep : List Nat} (hb : ∀ fr x p,body fr x = some p → body' fr x.toH = some (lN p)) : ∀ {n : Nat} {fr : Fr} {x : XH} {p : Exit × Fr × XH},xLp body keep n fr x = some p → evL body' keep n fr x.toH = some (lN p)
 | 0,_,_,_,h => by cases h
 | n + 1,fr,x,p,h => by
  obtain ⟨⟨e,fr1,y⟩,hq,h⟩ := aX (o := body fr x) h
  have h1 := hb _ _ _ hq
  rcases aEH h with ⟨rfl,h⟩ | ⟨hne,h⟩
  · simp only [evL,h1,lN]
    rw [zP] at h
    exact aDn hb h
  · cases h
    simp only [evL,h1,lN]
    cases e <;> first | exact absurd rfl hne | rfl
theorem aFw {r : Option Nat} (h : xrOk r x = true) : rOk r x.toH = true := by
 cases r with
 | none => rfl
 | some i =>
  simp only [xrOk] at h
  split at h
  · rename_i hx
    simp only [rOk,mB.1 hx]
  · cases h
theorem aHk {v : AV} (h : isFn v = true) : ∃ f a b,v = .fn (.func f) a b := by
 unfold isFn at h
 split at h
 · exact ⟨_,_,_,rfl⟩
 · cases h
theorem pO {o : Option Code} {p : Exit × Fr × XH} (h : aDg fr x o = some p) : aBx fr x.toH o = some (lN p) := by
 unfold aDg at h
 split at h <;> first | (cases h; done) | (cases h; rfl)
theorem aFz {id : Nat} {o : dN} {o' : Out} {p : Exit × Fr × XH} (h : xblk id o = some p) : (∀ p,o = some p → o' = some (lN p)) →
 (match o' with
 | some (.exit i,fr,h) => match Nat.beq i id with
  | true => some (.normal,fr,h)
  | false => some (.exit i,fr,h)
 | x => x) = some (lN p) := fun ho => by
 unfold xblk at h
 split at h
 · rename_i i fr1 y
   rw [ho _ rfl]
   simp only [lN]
   split at h
   · rename_i hb; cases h; first | rfl | rw [hb]
   · rename_i hb; cases h; first | rfl | rw [hb]
 · rename_i hne
   rw [ho _ h]
   obtain ⟨e,fr1,y⟩ := p
   cases e <;> first | rfl | exact absurd h (hne _ _ _)
theorem aCb {o : dN} {o' : Out} {p : Exit × Fr × XH} (h : zM o = some p) : (∀ p,o = some p → o' = some (lN p)) →
 (match o' with
 | some (.goto _,_,_) => none
 | x => x) = some (lN p) := fun ho => by
 unfold zM at h
 split at h
 · cases h
 · rename_i hne
   rw [ho _ h]
   obtain ⟨e,fr1,y⟩ := p
   cases e <;> first | rfl | exact absurd h (hne _ _ _)
theorem jL {C : zG} : ∀ (s : SC) {k : XC} (_ : ∀ E,oE (k.call E) (C E)) {fr : Fr} {x : XH} {p : Exit × Fr × XH},xS s k fr x = some p → evS k.X.ev C k.fuel k.r k.nt k.E s fr x.toH = some (lN p)
 | .skip,_,_,_,_,_,h => by cases h; rfl
 | .ret,_,_,_,_,_,h => by cases h; rfl
 | .exit _,_,_,_,_,_,h => by cases h; rfl
 | .lab _,_,_,_,_,_,h => by cases h; rfl
 | .regC _ _ _ _ _,_,_,_,_,_,h => by cases h
 | .regP _ _ _ _,_,_,_,_,_,h => by cases h
 | .drawE _ _ _ _ _,_,_,_,_,_,h => by cases h
 | .reg l,k,hc,fr,x,p,h => by
  obtain ⟨q,hq,rfl⟩ := pM (o := xO l k.X.w0 (k.call k.E) fr x) h
  simp only [evS]
  have := aDm (hc k.E) hq
  show qY (evO k.X.w0 (C k.E) l fr x.toH) = _
  rw [this]; rfl
 | .draw (a :: b) l bef,k,hc,fr,x,p,h => by
  obtain ⟨q,hq,rfl⟩ := pM (o := xO l k.X.w0 (k.call k.E) fr x) h
  simp only [evS]
  have := aDm (hc k.E) hq
  show qY (evO k.X.w0 (C k.E) l fr x.toH) = _
  rw [this]; rfl
 | .draw [] l bef,k,hc,fr,x,p,h => by
  have h : aDk l bef k fr x = some p := h
  unfold aDk at h
  split at h
  · rename_i q hq
    simp only [evS]
    show (match k.X.prm l with
     | some p => evD k.X.w0 (C k.E) l bef p.1 p.2 fr x.toH
     | none => none) = _
    rw [hq]
    exact xD_eq (hc k.E) h
  · cases h
 | .seq a b,k,hc,fr,x,p,h => by
  obtain ⟨⟨e,fr1,y⟩,hq,h⟩ := aX (o := xS a k fr x) h
  have h1 := jL a hc hq
  simp only [evS]
  rcases aEH h with ⟨rfl,h⟩ | ⟨hne,h⟩
  · rw [h1]
    exact jL b hc h
  · cases h
    rw [h1]
    cases e <;> first | exact absurd rfl hne | rfl
 | .cond (.t t) a b,k,hc,fr,x,p,h => by
  obtain ⟨q,hq,h⟩ := aX (o := dG (lY fr t)) h
  have e := dR hq
  rw [fH] at e
  simp only [evS,e]
  cases q with
  | true => exact jL a hc h
  | false => exact jL b hc h
 | .cond (.k v) a b,k,hc,fr,x,p,h => by
  obtain ⟨q,hq,h⟩ := aX (o := dG v) h
  have e := dR hq
  subst e
  simp only [evS]
  cases q with
  | true => exact jL a hc h
  | false => exact jL b hc h
 | .blk id a,k,hc,fr,x,p,h => by
  simp only [evS]
  exact aFz (o := xS a k fr x) h (fun p => jL a hc)
 | .loop keep a,k,hc,fr,x,p,h => by
  simp only [evS]
  have h : xLp (xS a k) keep k.fuel (xkp keep fr) x = some p := h
  rw [zP] at h
  exact aDn (body := xS a k) (fun fr x p => jL a hc) h
 | .scope a,k,hc,fr,x,p,h => by
  simp only [evS]
  exact aCb (o := xS a k fr x) h (fun p => jL a hc)
 | .rng f ps ca cb ma mb,k,hc,fr,x,p,h => by
  have h : xrng f ps ca cb ma mb k fr x = some p := h
  unfold xrng at h
  split at h
  · rename_i hb
    rw [Bool.and_eq_true] at hb
    obtain ⟨fid,first,capt,ef⟩ := aHk hb.2
    rw [ef] at h
    rw [bB] at ef
    simp only [evS,aFw hb.1,ef]
    split at h
    · rename_i q hq
      have h1 := hc _ _ _ _ _ hq
      rw [iH] at h1
      rw [dX,h1]
      simp only
      split at h
      · rename_i n0 f0 p0 a0 b0 st pd hst
        rw [mB.1 hst]
        cases st with
        | busy => cases h
        | ready => have := pO h; rw [gB] at this; exact this
        | done => have := pO h; rw [gB] at this; exact this
        | exhausted => have := pO h; rw [gB] at this; exact this
      · cases h
    · cases h
  · cases h
theorem aCc {rec_ : LoopState → Option Code → Blk} {i : Nat} {e : Exit} {r : AV × XH} (h : zN rec_ i x e = some r) : qS rec_ i x.toH e = some (r.1,r.2.toH) := by
 unfold zN at h
 split at h <;> first | (cases h; done) | (cases h; simp only [qS,gB])
theorem aDa {r : RV} {v : AV} (h : aDb r w fr x = some v) : jP w fr x.toH r = some v := by
 cases r with
 | t n => cases h; simp only [jP,fH]
 | c n g =>
  obtain ⟨p,hp,h⟩ := aX (o := gU (lY fr n)) h
  have e := gN hp
  rw [fH] at e
  simp only [jP,e]
  exact aAX h
theorem wB : ∀ {l : List RV} {k : List AV},xresL l w fr x = some k → l.mapM (jP w fr x.toH) = some k
 | [],k,h => by cases h; rfl
 | r :: l,k,h => by
  obtain ⟨v,hv,h⟩ := aX (o := aDb r w fr x) h
  obtain ⟨t,ht,rfl⟩ := nD h
  rw [List.mapM_cons,aDa hv]
  simp only [Option.bind_eq_bind,Option.bind_some,wB ht,Option.pure_def]
theorem aFH (l : List AV) : tupL l = match l with
 | [v] => v
 | l => .tup l := by
 cases l with
 | nil => rfl
 | cons a l => cases l <;> rfl
theorem aFv {rs : List RV} {n : Nat} {o : dN} {o' : Out} (ho : ∀ p,o = some p → o' = some (lN p)) {r : AV × XH} (h : xret w rs o = some r) : retO w false rs n o' = some (r.1,r.2.toH) := by
 obtain ⟨⟨e,fr1,y⟩,hq,h⟩ := aX h
 rw [ho _ hq]
 have h1 : ∀ {r : AV × XH},xres rs w fr1 y = some r → (match fM w rs fr1 y.toH with
  | some v => some (v,y.toH)
  | none => none) = some (r.1,r.2.toH) := fun {r} h => by
  obtain ⟨l,hl,h⟩ := aX h
  cases h
  simp only [fM,wB hl,Option.map_some,aFH]
  rfl
 cases e <;> first | (cases h; done) | exact h1 h
theorem wF : ∀ (l : List AV) (n : Nat),aDh l n = cU l n
 | [],_ => rfl
 | v :: l,n => by show (n,v) :: aDh l (n + 1) = _; rw [wF l]; rfl
theorem xC_eq (X : XEv) : ∀ (n : Nat) (E : LE),oE (xC X n E) (evC X.ev n E)
 | 0,E => fun fv as x r h => by cases h
 | n + 1,E => fun fv as x r h => by
  have ih := xC_eq X n
  cases fv with
  | fn g first capt => cases g with
   | func f =>
    have h : callF X n (xC X n) E f (rX (rX first as) capt) x = some r := h
    rw [kE,kE] at h
    simp only [evC]
    rcases hZ (o := X.orc f (first ++ as ++ capt)) h with ⟨ho,h⟩ | ⟨v,hv,h⟩
    · have e1 : X.ev.orc f (first ++ as ++ capt) x.toH = none := by show (X.orc f _).map _ = none; rw [ho]; rfl
      rw [e1]
      simp only
      obtain ⟨mf,hmf,h⟩ := aX h
      have e2 : X.ev.tab f = some mf := hmf
      rw [e2]
      simp only
      obtain ⟨h1,h⟩ := eS h
      rw [kD] at h1
      rw [h1]
      rw [wF] at h
      exact aFv (fun p hp => jL mf.body (C := evC X.ev n) ih hp) h
    · have e1 : X.ev.orc f (first ++ as ++ capt) x.toH = some (v,x.toH) := by show (X.orc f _).map _ = _; rw [hv]; rfl
      rw [e1]
      cases h; rfl
   | _ => cases h
  | yld i =>
   have h : zL X n (xC X n) E i as x = some r := h
   unfold zL at h
   simp only [evC]
   split at h
   · rename_i nt fr0 ps ca cb p hi hl
     rw [mB.1 hi,hl]
     simp only
     split at h
     · rename_i hlen
       rw [hlen]
       simp only
       split at h
       · rename_i fr1 h1 hx
         have e1 := jL p.1 (C := evC X.ev n) (k := ⟨X,xC X n,n,some i,nt,E⟩) ih hx
         rw [e1]
         simp only [lN]
         split at h
         · rename_i n1 f1 p1 a1 b1 hi1
           rw [mB.1 hi1]
           simp only
           split at h
           · rename_i e fr2 h2 hy
             have e2 := jL p.2 (C := evC X.ev n) (k := ⟨X,xC X n,n,some i,nt,E⟩) ih hy
             simp only [gB] at e2
             rw [e2]
             simp only [lN]
             split at h
             · rename_i hi2
               rw [mB.1 hi2]
               simp only
               exact aCc h
             · cases h
           · cases h
         · cases h
       · cases h
     · cases h
   · cases h
  | _ => cases h
end
noncomputable section
def aHj (o : XR) : Bool := @Option.rec (AV × XH) (fun _ => Bool) false (fun p => @Option.rec Bool (fun _ => Bool) false (fun b => b) (dG p.1)) o
theorem xU {P : Program} {X : XEv} {h : aA} (ok : vY P X.ev) {n f : Nat} (e : aHj (xC X n [] (.fn (.func f) [] []) [] ⟨0,.e⟩) = true) : bQ P X.w0 f [] h (.bool true) h := by
 refine aAn ok (n := n) (f := f) ?_
 cases hx : xC X n [] (.fn (.func f) [] []) [] ⟨0,.e⟩ with
 | none => rw [hx] at e; cases e
 | some p =>
  rw [hx] at e
  have h1 := xC_eq X n [] _ _ _ _ hx
  have h0 : XH.toH ⟨0,.e⟩ = [] := rfl
  rw [h0] at h1
  rw [h1]
  have e : @Option.rec Bool (fun _ => Bool) false (fun b => b) (dG p.1) = true := e
  cases hb : dG p.1 with
  | none => rw [hb] at e; cases e
  | some b =>
   rw [hb] at e
   have e : b = true := e
   subst e
   rw [dR hb]; rfl
end
def sH (Q : Nat → SF → Prop) : XT SF → (Nat → Nat) → Prop
 | .e,_ => True
 | .n v l r,φ => (∀ mf,v = some mf → Q (φ 1) mf) ∧ sH Q l (fun j => φ (2 * j)) ∧ sH Q r (fun j => φ (2 * j + 1))
theorem pX {Q : Nat → SF → Prop} : ∀ {t : XT SF} {φ : Nat → Nat} {j : Nat} {mf : SF},1 ≤ j → sH Q t φ → tget t j = some mf → Q (φ j) mf
 | .e,_,_,_,_,_,h => by cases h
 | .n v l r,φ,j,mf,hj,⟨a1,a2,a3⟩,h => by
  have h : @Bool.rec (fun _ => Option SF) (@Bool.rec (fun _ => Option SF) (tget r (j / 2)) (tget l (j / 2)) (Nat.beq (j % 2) 0)) v (Nat.beq j 1) = some mf := h
  simp only [oB,aL] at h
  by_cases e1 : j = 1
  · rw [if_pos e1] at h
    rw [e1]; exact a1 mf h
  · rw [if_neg e1] at h
    by_cases e2 : j % 2 = 0
    · rw [if_pos e2] at h
      have := pX (j := j / 2) (by omega) a2 h
      rwa [show 2 * (j / 2) = j by omega] at this
    · rw [if_neg e2] at h
      have := pX (j := j / 2) (by omega) a3 h
      rwa [show 2 * (j / 2) + 1 = j by omega] at this
def QF (P : Program) (j : Nat) (mf : SF) : Prop := aS P (j - 1) = some mf.er ∧ aC P (j - 1) = true ∧ mf.body.good = true
theorem aU {P : Program} {φ : Nat → Nat} {mf : SF} {l r : XT SF} (h : QF P (φ 1) mf) (hl : sH (QF P) l (fun j => φ (2 * j))) (hr : sH (QF P) r (fun j => φ (2 * j + 1))) : sH (QF P) (.n (some mf) l r) φ := ⟨fun m e => by cases e; exact h,hl,hr⟩
theorem cK {P : Program} {φ : Nat → Nat} {l r : XT SF} (hl : sH (QF P) l (fun j => φ (2 * j))) (hr : sH (QF P) r (fun j => φ (2 * j + 1))) : sH (QF P) (.n none l r) φ := ⟨fun m e => (by cases e),hl,hr⟩
theorem evOkX {P : Program} {X : XEv} (hm : P.follows .mixedOrders = true) (ht : sH (QF P) X.tab id) (ho : ∀ f as v,X.orc f as = some v → ∀ h,bQ P X.w0 f as h v h) : vY P X.ev where
 hm := hm
 tab := fun f mf e => by
  have := pX (j := f + 1) (by omega) ht e
  simp only [id,QF,Nat.add_sub_cancel] at this
  exact this
 orc := fun f as h v h' e => by
  have e : (X.orc f as).map (fun v => (v,h)) = some (v,h') := e
  cases hx : X.orc f as with
  | none => rw [hx] at e; cases e
  | some u =>
   rw [hx] at e
   cases e
   exact ⟨ho f as _ hx h,LS.refl⟩
 reg := fun l bef fr h p e => by cases e
end Go.Proofs.Ab

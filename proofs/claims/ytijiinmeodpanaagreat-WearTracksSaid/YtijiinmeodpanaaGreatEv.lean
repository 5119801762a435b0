/- The own layer under the proofs of this seat, part Ev: what calls of the program come to on an abstract heap. No condition. -/
import Derived.Test.YtijiinmeodpanaaGreatH
set_option linter.unusedSimpArgs false
set_option linter.unusedVariables false
namespace Go.Proofs.Ab
open Go
noncomputable section
inductive XT (α : Type) where
 | e
 | n (v : Option α) (l r : XT α)
def tget {α : Type} (t : XT α) : Nat → Option α := @XT.rec α (fun _ => Nat → Option α) (fun _ => none)
 (fun v _ _ il ir j => @Bool.rec (fun _ => Option α) (@Bool.rec (fun _ => Option α) (ir (Nat.div j 2)) (il (Nat.div j 2)) (Nat.beq (Nat.mod j 2) 0)) v (Nat.beq j 1)) t
def jS (t : XT Blk) : Nat → Option Blk := @XT.rec Blk (fun _ => Nat → Option Blk) (fun _ => none)
 (fun v _ _ il ir j => @Bool.rec (fun _ => Option Blk) (@Bool.rec (fun _ => Option Blk) (ir (Nat.div j 2)) (il (Nat.div j 2)) (Nat.beq (Nat.mod j 2) 0)) v (Nat.beq j 1)) t
def tmk (f : Nat) : Nat → Option Blk → XT Blk := @Nat.rec (fun _ => Nat → Option Blk → XT Blk) (fun _ b => .n b .e .e)
 (fun _ ih j b => @Bool.rec (fun _ => XT Blk) (@Bool.rec (fun _ => XT Blk) (.n none .e (ih (Nat.div j 2) b)) (.n none (ih (Nat.div j 2) b) .e) (Nat.beq (Nat.mod j 2) 0)) (.n b .e .e) (Nat.beq j 1)) f
def rU (t : XT Blk) : Nat → Option Blk → XT Blk := @XT.rec Blk (fun _ => Nat → Option Blk → XT Blk) (fun j b => tmk j j b)
 (fun v l r il ir j b => @Bool.rec (fun _ => XT Blk) (@Bool.rec (fun _ => XT Blk) (.n v l (ir (Nat.div j 2) b)) (.n v (il (Nat.div j 2) b) r) (Nat.beq (Nat.mod j 2) 0)) (.n b l r) (Nat.beq j 1)) t
structure XH where
 n : Nat
 t : XT Blk
def XH.toH (x : XH) : aA := (List.range x.n).map fun i => jS x.t (i + 1)
def XH.push (x : XH) (b : Blk) : XH := ⟨Nat.add x.n 1,rU x.t (Nat.add x.n 1) (some b)⟩
def XH.put (x : XH) (i : Nat) (b : Option Blk) : XH := ⟨x.n,rU x.t (Nat.add i 1) b⟩
def XH.at_ (x : XH) (i : Nat) : Option Blk := @Bool.rec (fun _ => Option Blk) none (jS x.t (Nat.add i 1)) (Nat.ble (Nat.add i 1) x.n)
def rowBX (b : Option Blk) : Option (List AV) := @Option.rec Blk (fun _ => Option (List AV)) none (fun b => @Blk.rec (fun _ => Option (List AV)) (fun c => some c) (fun _ => none) (fun _ _ _ _ _ _ _ => none) b) b
def mapB_ (b : Option Blk) : Option (List (AV × AV)) := @Option.rec Blk (fun _ => Option (List (AV × AV))) none (fun b => @Blk.rec (fun _ => Option (List (AV × AV))) (fun _ => none) (fun c => some c) (fun _ _ _ _ _ _ _ => none) b) b
def rS (x : XH) (i : Nat) : Option (List AV) := rowBX (x.at_ i)
def xmap (x : XH) (i : Nat) : Option (List (AV × AV)) := mapB_ (x.at_ i)
abbrev XR := Option (AV × XH)
abbrev XA := Option AV
def lV (fr : Fr) : Nat → AV := @List.rec (Nat × AV) (fun _ => Nat → AV) (fun _ => AV.undef) (fun p _ ih t => @Bool.rec (fun _ => AV) (ih t) p.2 (Nat.beq t p.1)) fr
def oev (o : Opd) : Fr → AV := @Opd.rec (fun _ => Fr → AV) (fun n fr => lV fr n) (fun v _ => v) o
def evs (l : List Opd) : Fr → List AV := @List.rec Opd (fun _ => Fr → List AV) (fun _ => []) (fun o _ ih fr => oev o fr :: ih fr) l
def i64P (k : IntKind) : Int → Option Int := @IntKind.rec (fun _ => Int → Option Int) (fun _ => none) (fun _ => none) (fun _ => none) (fun n => some n) (fun _ => none) (fun _ => none) (fun _ => none) (fun _ => none) k
def jH (v : AV) : Option Int := @AV.rec (fun _ => Option Int) (fun _ => PUnit) (none) (fun k n => i64P k n) (fun _ => none) (fun _ => none) (fun _ _ => none) (fun _ _ => none) (fun _ => none) (none) (fun _ _ _ _ => none) (none) (fun _ => none) (none) (fun _ _ _ _ _ => none) (fun _ => none) (none) (fun _ _ _ => none) (none) PUnit.unit (fun _ _ _ _ => PUnit.unit) v
def dD (v : AV) : Option Bool := @AV.rec (fun _ => Option Bool) (fun _ => PUnit) (none) (fun _ _ => none) (fun b => some b) (fun _ => none) (fun _ _ => none) (fun _ _ => none) (fun _ => none) (none) (fun _ _ _ _ => none) (none) (fun _ => none) (none) (fun _ _ _ _ _ => none) (fun _ => none) (none) (fun _ _ _ => none) (none) PUnit.unit (fun _ _ _ _ => PUnit.unit) v
def gQ (v : AV) : Option Pl := @AV.rec (fun _ => Option Pl) (fun _ => PUnit) (none) (fun _ _ => none) (fun _ => none) (fun _ => none) (fun _ _ => none) (fun _ _ => none) (fun p => some p) (none) (fun _ _ _ _ => none) (none) (fun _ => none) (none) (fun _ _ _ _ _ => none) (fun _ => none) (none) (fun _ _ _ => none) (none) PUnit.unit (fun _ _ _ _ => PUnit.unit) v
def fY (v : AV) : Option (List AV) := @AV.rec (fun _ => Option (List AV)) (fun _ => PUnit) (none) (fun _ _ => none) (fun _ => none) (fun _ => none) (fun l _ => some l) (fun _ _ => none) (fun _ => none) (none) (fun _ _ _ _ => none) (none) (fun _ => none) (none) (fun _ _ _ _ _ => none) (fun _ => none) (none) (fun _ _ _ => none) (none) PUnit.unit (fun _ _ _ _ => PUnit.unit) v
def aDj (v : AV) : Option (List AV) := @AV.rec (fun _ => Option (List AV)) (fun _ => PUnit) (none) (fun _ _ => none) (fun _ => none) (fun _ => none) (fun _ _ => none) (fun l _ => some l) (fun _ => none) (none) (fun _ _ _ _ => none) (none) (fun _ => none) (none) (fun _ _ _ _ _ => none) (fun _ => none) (none) (fun _ _ _ => none) (none) PUnit.unit (fun _ _ _ _ => PUnit.unit) v
def wZ (v : AV) : Option Nat := @AV.rec (fun _ => Option Nat) (fun _ => PUnit) (none) (fun _ _ => none) (fun _ => none) (fun _ => none) (fun _ _ => none) (fun _ _ => none) (fun _ => none) (none) (fun _ _ _ _ => none) (none) (fun i => some i) (none) (fun _ _ _ _ _ => none) (fun _ => none) (none) (fun _ _ _ => none) (none) PUnit.unit (fun _ _ _ _ => PUnit.unit) v
def zJ (v : AV) : (Pl → Nat → Nat → Bool → XR) → XR → XR → XR := @AV.rec (fun _ => (Pl → Nat → Nat → Bool → XR) → XR → XR → XR) (fun _ => PUnit) (fun _ _ d => d) (fun _ _ => fun _ _ d => d) (fun _ => fun _ _ d => d) (fun _ => fun _ _ d => d) (fun _ _ => fun _ _ d => d) (fun _ _ => fun _ _ d => d) (fun _ => fun _ _ d => d) (fun _ _ d => d) (fun p n e f k _ _ => k p n e f) (fun _ z _ => z) (fun _ => fun _ _ d => d) (fun _ _ d => d) (fun _ _ _ _ _ => fun _ _ d => d) (fun _ => fun _ _ d => d) (fun _ _ d => d) (fun _ _ _ => fun _ _ d => d) (fun _ _ d => d) PUnit.unit (fun _ _ _ _ => PUnit.unit) v
def sI (m n : Nat) : Int := @Bool.rec (fun _ => Int) (.negSucc (Nat.sub (Nat.sub n m) 1)) (.ofNat (Nat.sub m n)) (Nat.ble n m)
def iadd (a b : Int) : Int := @Int.rec (fun _ => Int → Int)
 (fun m b => @Int.rec (fun _ => Int) (fun n => .ofNat (Nat.add m n)) (fun n => sI m (Nat.add n 1)) b)
 (fun m b => @Int.rec (fun _ => Int) (fun n => sI n (Nat.add m 1)) (fun n => .negSucc (Nat.add (Nat.add m n) 1)) b) a b
def tC (n : Nat) : Int := @Nat.rec (fun _ => Int) (.ofNat 0) (fun m _ => .negSucc m) n
def ineg (a : Int) : Int := @Int.rec (fun _ => Int) (fun n => tC n) (fun n => .ofNat (Nat.add n 1)) a
def isub (a b : Int) : Int := iadd a (ineg b)
def imul (a b : Int) : Int := @Int.rec (fun _ => Int → Int)
 (fun m b => @Int.rec (fun _ => Int) (fun n => .ofNat (Nat.mul m n)) (fun n => tC (Nat.mul m (Nat.add n 1))) b)
 (fun m b => @Int.rec (fun _ => Int) (fun n => tC (Nat.mul (Nat.add m 1) n)) (fun n => .ofNat (Nat.mul (Nat.add m 1) (Nat.add n 1))) b) a b
def ile (a b : Int) : Bool := @Int.rec (fun _ => Int → Bool)
 (fun m b => @Int.rec (fun _ => Bool) (fun n => Nat.ble m n) (fun _ => false) b)
 (fun m b => @Int.rec (fun _ => Bool) (fun _ => true) (fun n => Nat.ble n m) b) a b
def ieq (a b : Int) : Bool := @Int.rec (fun _ => Int → Bool)
 (fun m b => @Int.rec (fun _ => Bool) (fun n => Nat.beq m n) (fun _ => false) b)
 (fun m b => @Int.rec (fun _ => Bool) (fun _ => false) (fun n => Nat.beq m n) b) a b
def aAw (b : Bool) : Bool := @Bool.rec (fun _ => Bool) true false b
def in64 (a : Int) : Bool := @Int.rec (fun _ => Bool) (fun n => Nat.ble n 9223372036854775807) (fun n => Nat.ble n 9223372036854775807) a
def wA (a : Int) : XA := @Bool.rec (fun _ => XA) none (some (.int .i64 a)) (in64 a)
def aCY (a : Int) : XA := @Bool.rec (fun _ => XA) (some (.int .i64 (IntKind.i64.wrap a))) (some (.int .i64 a)) (in64 a)
def oM (f : Int → Int → XA) (op : BinOp) (x y : AV) : XA := @Option.rec Int (fun _ => XA) (bin op x y) (fun a => @Option.rec Int (fun _ => XA) (bin op x y) (fun b => f a b) (jH y)) (jH x)
def sS (a : Int) : Option Nat := @Int.rec (fun _ => Option Nat) (fun n => some n) (fun _ => none) a
def xdiv (a b : Int) : XA := @Option.rec Nat (fun _ => XA) (eV .quo .i64 a b) (fun m => @Option.rec Nat (fun _ => XA) (eV .quo .i64 a b) (fun n => @Bool.rec (fun _ => XA) (wA (.ofNat (Nat.div m n))) none (Nat.beq n 0)) (sS b)) (sS a)
def xrem (a b : Int) : XA := @Option.rec Nat (fun _ => XA) (eV .rem .i64 a b) (fun m => @Option.rec Nat (fun _ => XA) (eV .rem .i64 a b) (fun n => @Bool.rec (fun _ => XA) (some (.int .i64 (.ofNat (Nat.mod m n)))) none (Nat.beq n 0)) (sS b)) (sS a)
def xbin (op : BinOp) : AV → AV → XA := @BinOp.rec (fun _ => AV → AV → XA)
 (fun x y => oM (fun a b => wA (iadd a b)) .add x y)
 (fun x y => oM (fun a b => aCY (isub a b)) .sub x y)
 (fun x y => oM (fun a b => wA (imul a b)) .mul x y)
 (fun x y => oM xdiv .quo x y)
 (fun x y => oM xrem .rem x y)
 (fun x y => bin .and x y) (fun x y => bin .or x y) (fun x y => bin .xor x y) (fun x y => bin .shl x y) (fun x y => bin .shr x y) (fun x y => bin .andNot x y)
 (fun x y => oM (fun a b => some (.bool (ieq a b))) .eql x y)
 (fun x y => oM (fun a b => some (.bool (aAw (ieq a b)))) .neq x y)
 (fun x y => oM (fun a b => some (.bool (aAw (ile b a)))) .lss x y)
 (fun x y => oM (fun a b => some (.bool (ile a b))) .leq x y)
 (fun x y => oM (fun a b => some (.bool (aAw (ile a b)))) .gtr x y)
 (fun x y => oM (fun a b => some (.bool (ile b a))) .geq x y) op
def uA (l : List AV) : Nat := @List.rec AV (fun _ => Nat) 0 (fun _ _ ih => Nat.add ih 1) l
def vnth (l : List AV) : Nat → XA := @List.rec AV (fun _ => Nat → XA) (fun _ => none) (fun v _ ih n => @Nat.rec (fun _ => XA) (some v) (fun m _ => ih m) n) l
def wD (n : Nat) : List AV → Option (List AV) := @Nat.rec (fun _ => List AV → Option (List AV)) (fun l => some l) (fun _ ih l => @List.rec AV (fun _ => Option (List AV)) none (fun _ t _ => ih t) l) n
def xZ (v : AV) (o : Option (List AV)) : Option (List AV) := @Option.rec (List AV) (fun _ => Option (List AV)) none (fun r => some (v :: r)) o
def wC (n : Nat) : List AV → Option (List AV) := @Nat.rec (fun _ => List AV → Option (List AV)) (fun _ => some []) (fun _ ih l => @List.rec AV (fun _ => Option (List AV)) none (fun v t _ => xZ v (ih t)) l) n
def vlay (l : List AV) : List AV → Option (List AV) := @List.rec AV (fun _ => List AV → Option (List AV)) (fun c => some c) (fun x _ ih c => @List.rec AV (fun _ => Option (List AV)) none (fun _ t _ => xZ x (ih t)) c) l
def aB4 (o : Nat) : List AV → List AV → Option (List AV) := @Nat.rec (fun _ => List AV → List AV → Option (List AV)) (fun l c => vlay l c) (fun _ ih l c => @List.rec AV (fun _ => Option (List AV)) none (fun v t _ => xZ v (ih l t)) c) o
def rT (l : List AV) : List AV → List AV := @List.rec AV (fun _ => List AV → List AV) (fun r => r) (fun v _ ih r => v :: ih r) l
def xone (v : AV) : Bool := @AV.rec (fun _ => Bool) (fun _ => PUnit) (false) (fun _ _ => true) (fun _ => true) (fun _ => true) (fun _ _ => false) (fun _ _ => false) (fun _ => true) (true) (fun _ _ _ _ => true) (true) (fun _ => true) (true) (fun _ _ _ _ _ => true) (fun _ => true) (true) (fun _ _ _ => true) (true) PUnit.unit (fun _ _ _ _ => PUnit.unit) v
def aB5 (l : List AV) : Bool := @List.rec AV (fun _ => Bool) true (fun v _ ih => @Bool.rec (fun _ => Bool) false ih (xone v)) l
def kW (v : AV) : Option (List AV) := @AV.rec (fun _ => AV → Option (List AV)) (fun _ => PUnit) (fun _ => none) (fun _ _ => fun v => some [v]) (fun _ => fun v => some [v]) (fun _ => fun v => some [v]) (fun l _ _ => @Bool.rec (fun _ => Option (List AV)) none (some l) (aB5 l)) (fun _ _ _ => none) (fun _ => fun v => some [v]) (fun v => some [v]) (fun _ _ _ _ => fun v => some [v]) (fun v => some [v]) (fun _ => fun v => some [v]) (fun v => some [v]) (fun _ _ _ _ _ => fun v => some [v]) (fun _ => fun v => some [v]) (fun v => some [v]) (fun _ _ _ => fun v => some [v]) (fun v => some [v]) PUnit.unit (fun _ _ _ _ => PUnit.unit) v v
def tU (w : World) (x : XH) (p : Pl) : Nat → Option (List AV) := @Pl.rec (fun _ => World → XH → Nat → Option (List AV)) (fun a w _ n => rdn w [] (.old a) n)
 (fun i o _ x n => @Option.rec (List AV) (fun _ => Option (List AV)) none (fun c => @Option.rec (List AV) (fun _ => Option (List AV)) none (fun d => wC n d) (wD o c)) (rS x i)) p w x
def xrd (w : World) (x : XH) (p : Pl) : XA := @Pl.rec (fun _ => World → XH → XA) (fun a w _ => rd w [] (.old a))
 (fun i o _ x => @Option.rec (List AV) (fun _ => XA) none (fun c => vnth c o) (rS x i)) p w x
def xrdv (w : World) (x : XH) (p : Pl) (n : Option Nat) : XA := @Option.rec Nat (fun _ => World → XH → Pl → XA) (fun w x p => xrd w x p)
 (fun n w x p => @Option.rec (List AV) (fun _ => XA) none (fun l => some (.agg l)) (tU w x p n)) n w x p
def gS (x : XH) (v : XA) : XR := @Option.rec AV (fun _ => XR) none (fun v => some (v,x)) v
def putR (x : XH) (i : Nat) (c : Option (List AV)) : XR := @Option.rec (List AV) (fun _ => XR) none (fun c => some (.undef,x.put i (some (.row c)))) c
def stoP (p : Pl) : Nat → List AV → XH → XR := @Pl.rec (fun _ => Nat → List AV → XH → XR) (fun _ _ _ _ => none)
 (fun i o n l x => @Bool.rec (fun _ => XR) none (@Option.rec (List AV) (fun _ => XR) none (fun c => putR x i (aB4 o l c)) (rS x i)) (Nat.beq (uA l) n)) p
def esb (p : Pl) : Nat → Nat → Bool := @Pl.rec (fun _ => Nat → Nat → Bool) (fun _ _ _ => true) (fun _ _ a b => Nat.beq a b) p
def wT (p : Pl) : Nat → Pl := @Pl.rec (fun _ => Nat → Pl) (fun a n => Pl.add (.old a) n) (fun i o n => .own i (Nat.add o n)) p
def vY (ps : List (Nat × Nat × Opd)) : Fr → List AV → Option (List AV) := @List.rec (Nat × Nat × Opd) (fun _ => Fr → List AV → Option (List AV)) (fun _ c => some c)
 (fun p _ ih fr c => @Option.rec (List AV) (fun _ => Option (List AV)) none (fun l => @Bool.rec (fun _ => Option (List AV)) none (@Option.rec (List AV) (fun _ => Option (List AV)) none (fun d => ih fr d) (aB4 p.1 l c)) (Nat.beq (uA l) p.2.1)) (kW (oev p.2.2 fr))) ps
def vT (z : List AV) (n : Nat) : List AV := @Nat.rec (fun _ => List AV) [] (fun _ ih => rT z ih) n
def vV (x : XH) (c : List AV) (len es : Nat) (full : Bool) : XR := some (.sl (.own x.n 0) len es full,x.push (.row c))
def aCw (n : Nat) : AV := .int .i64 (.ofNat n)
def asN (v : AV) : Option Nat := @Option.rec Int (fun _ => Option Nat) (bY v) (fun a => sS a) (jH v)
def xsrc (w : World) (x : XH) (es : Nat) (y : AV) (k : Nat → List AV → XR) : XR := zJ y (fun q n es' _ => @Bool.rec (fun _ => XR) none (@Option.rec (List AV) (fun _ => XR) none (fun l => k n l) (tU w x q (Nat.mul n es))) (esb q es es')) (k 0 []) none
def growP (p : Pl) : World → XH → Nat → Nat → Nat → List AV → XR := @Pl.rec (fun _ => World → XH → Nat → Nat → Nat → List AV → XR) (fun _ _ _ _ _ _ _ => none)
 (fun i o w x es len n l => @Option.rec (List AV) (fun _ => XR) none (fun old => some (.sl (.own x.n 0) (Nat.add len n) es false,(x.put i none).push (.row (rT old l)))) (tU w x (.own i o) (Nat.mul len es))) p
def xapp (w : World) (x : XH) (es bytes : Nat) (a y : AV) : XR := xsrc w x es y fun n l => @Bool.rec (fun _ => XR)
 (zJ a (fun p len es' full => @Bool.rec (fun _ => XR) none (@Bool.rec (fun _ => XR) (growP p w x es len n l)
  (@Option.rec (List AV) (fun _ => XR) none (fun old => vV x (rT old l) (Nat.add len n) es false) (tU w x p (Nat.mul len es))) full)
  (@Bool.rec (fun _ => Bool) false (@Bool.rec (fun _ => Bool) false (aB5 l) (Nat.ble (Nat.mul (Nat.add len n) (Nat.add bytes 1)) 1099511627776)) (esb p es es')))
  (@Bool.rec (fun _ => XR) none (vV x l n es false) (@Bool.rec (fun _ => Bool) false (aB5 l) (Nat.ble (Nat.mul n (Nat.add bytes 1)) 1099511627776))) none)
 (zJ a (fun _ _ _ _ => some (a,x)) (some (.nilS,x)) none) (Nat.beq n 0)
def fst_ (o : Option Bool) (b : Bool) : Option Bool := @Option.rec Bool (fun _ => Option Bool) none (fun _ => some b) o
def xceq (i : Bool) (x y : AV) : Option Bool := @Option.rec Int (fun _ => Option Bool) (ceq i x y) (fun a => @Option.rec Int (fun _ => Option Bool) (ceq i x y) (fun b => @Bool.rec (fun _ => Option Bool) none (some (ieq a b)) i) (jH y)) (jH x)
def vZ (s : List Bool) : List AV → List AV → Option Bool := @List.rec Bool (fun _ => List AV → List AV → Option Bool) (fun x y => cI [] x y)
 (fun i s ih x y => @List.rec AV (fun _ => Option Bool) (cI (i :: s) x y) (fun a x' _ => @List.rec AV (fun _ => Option Bool) (cI (i :: s) x y) (fun b y' _ =>
  @Option.rec Bool (fun _ => Option Bool) none (fun e => @Bool.rec (fun _ => Option Bool) (fst_ (ih x' y') false) (ih x' y') e) (xceq i a b)) y) x) s
def xkeq (s : Bool × List Bool) (x y : AV) : Option Bool := @Bool.rec (fun _ => Option Bool) (vZ s.2 [x] [y])
 (@Option.rec (List AV) (fun _ => Option Bool) none (fun a => @Option.rec (List AV) (fun _ => Option Bool) none (fun b => vZ s.2 a b) (fY y)) (fY x)) s.1
def aC8 (s : Bool × List Bool) (k : AV) (l : List (AV × AV)) : Nat → Option (Option (Nat × AV)) := @List.rec (AV × AV) (fun _ => Nat → Option (Option (Nat × AV))) (fun _ => some none)
 (fun e _ ih i => @Option.rec Bool (fun _ => Option (Option (Nat × AV))) none (fun b => @Bool.rec (fun _ => Option (Option (Nat × AV))) (ih (Nat.add i 1)) (some (some (i,e.2))) b) (xkeq s k e.1)) l
def okV (ok : Bool) (v : AV) (b : Bool) : AV := @Bool.rec (fun _ => AV) v (.tup [v,.bool b]) ok
def aBi (z : AV) (ok : Bool) (m : AV) : XA := @AV.rec (fun _ => XA) (fun _ => PUnit) (none) (fun _ _ => none) (fun _ => none) (fun _ => none) (fun _ _ => none) (fun _ _ => none) (fun _ => none) (none) (fun _ _ _ _ => none) (none) (fun _ => none) (some (okV ok z false)) (fun _ _ _ _ _ => none) (fun _ => none) (none) (fun _ _ _ => none) (none) PUnit.unit (fun _ _ _ _ => PUnit.unit) m
def xlook (s : Bool × List Bool) (z : AV) (ok : Bool) (x : XH) (m k : AV) : XR := @Option.rec Bool (fun _ => XR) none (fun _ =>
 @Option.rec Nat (fun _ => XR) (gS x (aBi z ok m))
  (fun i => @Option.rec (List (AV × AV)) (fun _ => XR) none (fun es => @Option.rec (Option (Nat × AV)) (fun _ => XR) none
   (fun r => @Option.rec (Nat × AV) (fun _ => XR) (some (okV ok z false,x)) (fun p => some (okV ok p.2 true,x)) r) (aC8 s k es 0)) (xmap x i)) (wZ m)) (xkeq s k k)
def eset (l : List (AV × AV)) : Nat → AV × AV → List (AV × AV) := @List.rec (AV × AV) (fun _ => Nat → AV × AV → List (AV × AV)) (fun _ _ => []) (fun x t ih n y => @Nat.rec (fun _ => List (AV × AV)) (y :: t) (fun m _ => x :: ih m y) n) l
def eapp (l : List (AV × AV)) : AV × AV → List (AV × AV) := @List.rec (AV × AV) (fun _ => AV × AV → List (AV × AV)) (fun y => [y]) (fun x _ ih y => x :: ih y) l
def xmput (s : Bool × List Bool) (x : XH) (m k v : AV) : XR := @Option.rec Bool (fun _ => XR) none (fun _ =>
 @Option.rec Nat (fun _ => XR) none
  (fun i => @Option.rec (List (AV × AV)) (fun _ => XR) none (fun es => @Option.rec (Option (Nat × AV)) (fun _ => XR) none
   (fun r => @Option.rec (Nat × AV) (fun _ => XR) (some (.undef,x.put i (some (.map (eapp es (k,v)))))) (fun p => some (.undef,x.put i (some (.map (eset es p.1 (k,v)))))) r) (aC8 s k es 0)) (xmap x i)) (wZ m)) (xkeq s k k)
def bxor (n b : Bool) : Bool := @Bool.rec (fun _ => Bool) b (aAw b) n
def beqb (a b : Bool) : Bool := @Bool.rec (fun _ => Bool) (aAw b) b a
def aDX (sl : Bool) (v : AV) : Option Bool := @AV.rec (fun _ => Bool → Option Bool) (fun _ => PUnit) (fun _ => none) (fun _ _ => fun _ => none) (fun _ => fun _ => none) (fun _ => fun _ => none) (fun _ _ => fun _ => none) (fun _ _ => fun _ => none) (fun _ => fun _ => none) (fun _ => none) (fun _ _ _ _ s => @Bool.rec (fun _ => Option Bool) none (some false) s) (fun s => @Bool.rec (fun _ => Option Bool) none (some true) s) (fun _ => fun _ => none) (fun _ => none) (fun _ _ _ _ _ s => @Bool.rec (fun _ => Option Bool) (some false) none s) (fun _ s => @Bool.rec (fun _ => Option Bool) (some false) none s) (fun s => @Bool.rec (fun _ => Option Bool) (some true) none s) (fun _ _ _ => fun _ => none) (fun _ => none) PUnit.unit (fun _ _ _ _ => PUnit.unit) v sl
def aDZ (v : AV) : Option Bool := @AV.rec (fun _ => Option Bool) (fun _ => PUnit) (none) (fun _ _ => none) (fun _ => none) (fun _ => none) (fun _ _ => none) (fun _ _ => none) (fun _ => none) (none) (fun _ _ _ _ => none) (none) (fun _ => none) (none) (fun _ _ _ _ _ => none) (fun _ => none) (none) (fun _ _ _ => some false) (some true) PUnit.unit (fun _ _ _ _ => PUnit.unit) v
def zX (v : AV) : XA := match xK v with
 | some false => match v with
  | .ptr p => some (.ptr p)
  | .fn (.func f) a b => some (.fn (.func f) a b)
  | _ => none
 | _ => none
def aDV (v : AV) : XA := @Option.rec Pl (fun _ => XA) (zX v) (fun p => some (.ptr p)) (gQ v)
def xun (op : UnOp) : AV → XA := @UnOp.rec (fun _ => AV → XA) (fun v => pQ .neg v) (fun v => pQ .xor v) (fun v => @Option.rec Bool (fun _ => XA) (pQ .not v) (fun b => some (.bool (aAw b))) (dD v)) (fun v => pQ .plus v) op
def aBB (k : IntKind) (v : AV) : XA := match v with
 | .int _ n => dI k n
 | _ => none
def xconv (k : IntKind) (v : AV) : XA := @Option.rec Int (fun _ => XA) (aBB k v) (fun n => @Option.rec Int (fun _ => XA) (aBB k v) (fun n => wA n) (i64P k n)) (jH v)
def xmm (m : Bool) (l : List AV) : AV → XA := @List.rec AV (fun _ => AV → XA) (fun v => some v)
 (fun y r ih v => @Option.rec Int (fun _ => XA) (mm m v (y :: r)) (fun a => @Option.rec Int (fun _ => XA) (mm m v (y :: r)) (fun b => @Bool.rec (fun _ => XA)
  (ih (.int .i64 (@Bool.rec (fun _ => Int) b a (ile b a))))
  (ih (.int .i64 (@Bool.rec (fun _ => Int) b a (ile a b)))) m) (jH y)) (jH v)) l
def aEA (o : Option Opd) : Nat → Fr → Option Nat := @Option.rec Opd (fun _ => Nat → Fr → Option Nat) (fun d _ => some d) (fun x _ fr => asN (oev x fr)) o
def oR (fr : Fr) (n : Nat) (lo hi mx : Option Opd) : Option (Nat × Nat × Option Nat) := @Option.rec Opd (fun _ => Option (Nat × Nat × Option Nat))
 (@Option.rec Nat (fun _ => Option (Nat × Nat × Option Nat)) none (fun l => @Option.rec Nat (fun _ => Option (Nat × Nat × Option Nat)) none (fun h => @Bool.rec (fun _ => Option (Nat × Nat × Option Nat)) none (@Bool.rec (fun _ => Option (Nat × Nat × Option Nat)) none (some (l,h,none)) (Nat.ble h n)) (Nat.ble l h)) (aEA hi n fr)) (aEA lo 0 fr))
 (fun _ => bR fr n lo hi mx) mx
def band (a b : Bool) : Bool := @Bool.rec (fun _ => Bool) false b a
def aC7 (m : Option Nat) : Nat → Bool → Bool := @Option.rec Nat (fun _ => Nat → Bool → Bool) (fun _ d => d) (fun m hh _ => Nat.beq m hh) m
def aC1 (l : List AV) (off : Nat) (n : Option Nat) : XA := @Option.rec Nat (fun _ => XA) (vnth l off) (fun n => @Option.rec (List AV) (fun _ => XA) (pickAgg l off (some n)) (fun d => @Option.rec (List AV) (fun _ => XA) (pickAgg l off (some n)) (fun r => some (.agg r)) (wC n d)) (wD off l)) n
def ownK (p : Pl) : (Nat → Nat → XR) → XR := @Pl.rec (fun _ => (Nat → Nat → XR) → XR) (fun _ _ => none) (fun i o k => k i o) p
abbrev XOp := World → Fr → XH → XR
def xMov (x : Opd) : XOp := fun _ fr h => some (oev x fr,h)
def xPick (c a b : Opd) : XOp := fun _ fr h => @Option.rec Bool (fun _ => XR) none (fun t => some (@Bool.rec (fun _ => AV) (oev b fr) (oev a fr) t,h)) (dD (oev c fr))
def xBox (x : Opd) (n : Nat) : XOp := fun _ fr h => @Option.rec (List AV) (fun _ => XR) none (fun l => @Bool.rec (fun _ => XR) none (some (.ptr (.own h.n 0),h.push (.row l))) (Nat.beq (uA l) n)) (kW (oev x fr))
def xAlloc (z : List AV) : XOp := fun _ _ h => some (.ptr (.own h.n 0),h.push (.row z))
def xBuild (z : List AV) (ps : List (Nat × Nat × Opd)) : XOp := fun _ fr h => @Option.rec (List AV) (fun _ => XR) none (fun c => some (.agg c,h)) (vY ps fr z)
def xBsl (es : Nat) (z : List AV) (len : Nat) (ps : List (Nat × Nat × Opd)) : XOp := fun _ fr h => @Option.rec (List AV) (fun _ => XR) none (fun c => vV h c len es true) (vY ps fr (vT z len))
def xLoad (x : Opd) (n : Option Nat) : XOp := fun w fr h => @Option.rec Pl (fun _ => XR) none (fun p => gS h (xrdv w h p n)) (gQ (oev x fr))
def xStore (x v : Opd) (n : Nat) : XOp := fun _ fr h => @Option.rec Pl (fun _ => XR) none (fun p => @Option.rec (List AV) (fun _ => XR) none (fun l => stoP p n l h) (kW (oev v fr))) (gQ (oev x fr))
def xNilck (x : Opd) : XOp := fun _ fr h => gS h (aDV (oev x fr))
def xBin (op : BinOp) (x y : Opd) : XOp := fun _ fr h => gS h (xbin op (oev x fr) (oev y fr))
def xEqb (neq : Bool) (x y : Opd) : XOp := fun _ fr h => @Option.rec Bool (fun _ => XR) none (fun a => @Option.rec Bool (fun _ => XR) none (fun b => some (.bool (bxor neq (beqb a b)),h)) (dD (oev y fr))) (dD (oev x fr))
def negO (neq : Bool) (o : Option Bool) (h : XH) : XR := @Option.rec Bool (fun _ => XR) none (fun b => some (.bool (bxor neq b),h)) o
def xEqag (s : List Bool) (neq : Bool) (x y : Opd) : XOp := fun _ fr h => @Option.rec (List AV) (fun _ => XR) none (fun a => @Option.rec (List AV) (fun _ => XR) none (fun b => negO neq (vZ s a b) h) (fY (oev y fr))) (fY (oev x fr))
def xEqnil (sl neq : Bool) (x : Opd) : XOp := fun _ fr h => negO neq (aDX sl (oev x fr)) h
def xUn (op : UnOp) (x : Opd) : XOp := fun _ fr h => gS h (xun op (oev x fr))
def xConv (k : IntKind) (x : Opd) : XOp := fun _ fr h => gS h (xconv k (oev x fr))
def xMkif (t : TypeId) (x : Opd) : XOp := fun _ fr h => some (.ifc t (oev x fr),h)
def xMkfn (f : Fn) (a b : List Opd) : XOp := fun _ fr h => some (.fn f (evs a fr) (evs b fr),h)
def xMkmap : XOp := fun _ _ h => some (.map h.n,h.push (.map []))
def xMksl (es : Nat) (z : List AV) (bytes : Nat) (len cap : Opd) : XOp := fun _ fr h => @Option.rec Nat (fun _ => XR) none (fun l => @Option.rec Nat (fun _ => XR) none (fun c => @Bool.rec (fun _ => XR) none (vV h (vT z c) l es (Nat.beq l c)) (band (Nat.ble l c) (Nat.ble (Nat.mul c (Nat.add bytes 1)) 1099511627776))) (asN (oev cap fr))) (asN (oev len fr))
def xSlc (es : Nat) (x : Opd) (lo hi mx : Option Opd) : XOp := fun _ fr h => zJ (oev x fr)
 (fun p len es' full => @Bool.rec (fun _ => XR) none (@Option.rec (Nat × Nat × Option Nat) (fun _ => XR) none (fun b => some (.sl (wT p (Nat.mul b.1 es)) (Nat.sub b.2.1 b.1) es' (aC7 b.2.2 b.2.1 (band full (Nat.beq b.2.1 len))),h)) (oR fr len lo hi mx)) (esb p es es'))
 (@Option.rec (Nat × Nat × Option Nat) (fun _ => XR) none (fun _ => some (.nilS,h)) (oR fr 0 lo hi mx)) none
def xSlca (n es : Nat) (x : Opd) (lo hi mx : Option Opd) : XOp := fun _ fr h => @Option.rec Pl (fun _ => XR) none (fun p => ownK p fun i o => @Option.rec (List AV) (fun _ => XR) none (fun c => @Bool.rec (fun _ => XR) none
 (@Option.rec (Nat × Nat × Option Nat) (fun _ => XR) none (fun b => some (.sl (.own i (Nat.add o (Nat.mul b.1 es))) (Nat.sub b.2.1 b.1) es (aC7 b.2.2 b.2.1 (Nat.beq b.2.1 n)),h)) (oR fr n lo hi mx)) (Nat.ble (Nat.add o (Nat.mul n es)) (uA c))) (rS h i)) (gQ (oev x fr))
def xAddr (x : Opd) (off : Nat) : XOp := fun _ fr h => @Option.rec Pl (fun _ => XR) none (fun p => some (.ptr (wT p off),h)) (gQ (oev x fr))
def xFld (x : Opd) (off : Nat) (n : Option Nat) : XOp := fun _ fr h => @Option.rec (List AV) (fun _ => XR) none (fun l => gS h (aC1 l off n)) (fY (oev x fr))
def ltN (j n : Nat) : Bool := Nat.ble (Nat.add j 1) n
def xIdxs (es : Nat) (x i : Opd) : XOp := fun _ fr h => zJ (oev x fr) (fun p len es' _ => @Option.rec Nat (fun _ => XR) none (fun j => @Bool.rec (fun _ => XR) none (some (.ptr (wT p (Nat.mul j es)),h)) (band (esb p es es') (ltN j len))) (asN (oev i fr))) none none
def xIdxa (n es : Nat) (x i : Opd) : XOp := fun _ fr h => @Option.rec Pl (fun _ => XR) none (fun p => @Option.rec Nat (fun _ => XR) none (fun j => @Bool.rec (fun _ => XR) none (some (.ptr (wT p (Nat.mul j es)),h)) (ltN j n)) (asN (oev i fr))) (gQ (oev x fr))
def xIdx (n es : Nat) (agg : Bool) (x i : Opd) : XOp := fun _ fr h => @Option.rec (List AV) (fun _ => XR) none (fun l => @Option.rec Nat (fun _ => XR) none (fun j => @Bool.rec (fun _ => XR) none (gS h (aC1 l (Nat.mul j es) (@Bool.rec (fun _ => Option Nat) none (some es) agg))) (ltN j n)) (asN (oev i fr))) (fY (oev x fr))
def xLook (s : Bool × List Bool) (z : AV) (ok : Bool) (x k : Opd) : XOp := fun _ fr h => xlook s z ok h (oev x fr) (oev k fr)
def xMput (s : Bool × List Bool) (m k v : Opd) : XOp := fun _ fr h => xmput s h (oev m fr) (oev k fr) (oev v fr)
def xExt (x : Opd) (i : Nat) : XOp := fun _ fr h => @Option.rec (List AV) (fun _ => XR) none (fun l => gS h (vnth l i)) (aDj (oev x fr))
def xLen (x : Opd) : XOp := fun _ fr h => zJ (oev x fr) (fun _ n _ _ => some (aCw n,h)) (some (aCw 0,h)) none
def elen (l : List (AV × AV)) : Nat := @List.rec (AV × AV) (fun _ => Nat) 0 (fun _ _ ih => Nat.add ih 1) l
def aEf (v : AV) : XA := @AV.rec (fun _ => XA) (fun _ => PUnit) (none) (fun _ _ => none) (fun _ => none) (fun _ => none) (fun _ _ => none) (fun _ _ => none) (fun _ => none) (none) (fun _ _ _ _ => none) (none) (fun _ => none) (some (aCw 0)) (fun _ _ _ _ _ => none) (fun _ => none) (none) (fun _ _ _ => none) (none) PUnit.unit (fun _ _ _ _ => PUnit.unit) v
def xLenm (x : Opd) : XOp := fun _ fr h => @Option.rec Nat (fun _ => XR) (gS h (aEf (oev x fr))) (fun i => @Option.rec (List (AV × AV)) (fun _ => XR) none (fun es => some (aCw (elen es),h)) (xmap h i)) (wZ (oev x fr))
def xLena (n : Nat) : XOp := fun _ _ h => some (aCw n,h)
def xApp (es : Nat) (_ : List AV) (bytes : Nat) (x y : Opd) : XOp := fun w fr h => xapp w h es bytes (oev x fr) (oev y fr)
def xMin (m : Bool) (l : List Opd) : XOp := fun _ fr h => @List.rec AV (fun _ => XR) none (fun v r _ => gS h (xmm m r v)) (evs l fr)
def xEqni (neq : Bool) (x : Opd) : XOp := fun _ fr h => negO neq (aDZ (oev x fr)) h
def xTass (t : TypeId) (z : AV) (ok : Bool) (x : Opd) : XOp := fun _ fr h => gS h (nZ t z ok (oev x fr))
def xNo : XOp := fun _ _ _ => none
def xop (o : MOp) : XOp := @MOp.rec (fun _ => XOp) xMov xPick xBox xAlloc xBuild xBsl xLoad xStore xNilck xBin xEqb xEqag xEqnil xUn xConv xMkif xMkfn xMkmap xMksl xSlc xSlca xAddr xFld xIdxs xIdxa xIdx xLook xMput xExt xLen xLenm xLena xApp xMin xEqni xTass (fun _ _ _ => xNo) (fun _ => xNo) (fun _ _ => xNo) xNo o
abbrev iL := AV → List AV → XH → XR
abbrev XO := Option (Fr × XH)
abbrev dM := Option (Exit × Fr × XH)
def tupE (v : AV) : Bool := @AV.rec (fun _ => Bool) (fun _ => PUnit) (false) (fun _ _ => false) (fun _ => false) (fun _ => false) (fun _ _ => false) (fun l _ => @List.rec AV (fun _ => Bool) true (fun _ _ _ => false) l) (fun _ => false) (false) (fun _ _ _ _ => false) (false) (fun _ => false) (false) (fun _ _ _ _ _ => false) (fun _ => false) (false) (fun _ _ _ => false) (false) PUnit.unit (fun _ _ _ _ => PUnit.unit) v
def xput (d : Option Nat) : AV → Fr → Fr := @Option.rec Nat (fun _ => AV → Fr → Fr) (fun _ fr => fr) (fun d v fr => (d,v) :: fr) d
def gK (g : Option (Nat × Bool)) : Fr → (Fr → XO) → (Fr → XO) → XO := @Option.rec (Nat × Bool) (fun _ => Fr → (Fr → XO) → (Fr → XO) → XO) (fun fr yes _ => yes fr)
 (fun p fr yes no => @Option.rec Bool (fun _ => XO) (@Bool.rec (fun _ => XO) none (no fr) (tupE (lV fr p.1))) (fun c => @Bool.rec (fun _ => XO) (no ((p.1,.bool c) :: fr)) (yes ((p.1,.bool c) :: fr)) (beqb c p.2)) (dD (lV fr p.1))) g
def setR (d : Option Nat) (fr : Fr) (o : XR) : XO := @Option.rec (AV × XH) (fun _ => XO) none (fun p => @Prod.rec AV XH (fun _ => XO) (fun v x => some (xput d v fr,x)) p) o
def xI (x : MIx) : World → iL → Fr → XH → XO := @MIx.rec (fun _ => World → iL → Fr → XH → XO)
 (fun d g o w _ fr h => gK g fr (fun fr => setR d fr (xop o w fr h)) (fun fr => some (xput d (.tup []) fr,h)))
 (fun d g f as _ call fr h => gK g fr (fun fr => setR d fr (call (oev f fr) (evs as fr) h)) (fun fr => some (xput d (.tup []) fr,h))) x
def xO (l : List MIx) : World → iL → Fr → XH → XO := @List.rec MIx (fun _ => World → iL → Fr → XH → XO) (fun _ _ fr h => some (fr,h))
 (fun x _ ih w call fr h => @Option.rec (Fr × XH) (fun _ => XO) none (fun p => @Prod.rec Fr XH (fun _ => XO) (fun f x => ih w call f x) p) (xI x w call fr h)) l
def xA (w : World) (lp : List MIx) (fr : Fr) (h : XH) : List Nat → Bool
 | [] => true
 | u :: us => (match lp[u]? with
  | some (.op (some t) g o) => (match want fr g with
   | some true => (match xop o w fr h with
    | some p => AV.eqb p.1 (lV fr t)
    | none => false)
   | some false => AV.eqb (.tup []) (lV fr t)
   | none => false)
  | _ => false) && xA w lp fr h us
def xW (w : World) (call : iL) (lp : List MIx) (R : List (List Nat)) : List Nat → Fr → XH → XO
 | [],fr,h => some (fr,h)
 | i :: is,fr,h => match lp[i]? with
  | some x => match xI x w call fr h with
   | some p => match xA w lp p.1 p.2 (R.getD i []) with
    | true => xW w call lp R is p.1 p.2
    | false => none
   | none => none
  | none => none
def aAO (o : XO) : dM := @Option.rec (Fr × XH) (fun _ => dM) none (fun p => some (.normal,p)) o
def xDok (l : List MIx) (bef : List (List Nat)) (π : List Nat) (R : List (List Nat)) (lp : List MIx) : Bool := eZ l.length π && (Nat.ble R.length lp.length && iI lp (fun p q => Nat.blt p lp.length && (Nat.blt q lp.length && bfr bef (π.getD p 0) (π.getD q 0))) fun p => R.getD p [])
def xD (w : World) (call : iL) (l : List MIx) (bef : List (List Nat)) (π : List Nat) (R : List (List Nat)) (fr : Fr) (h : XH) : dM :=
 match π.mapM fun i => l[i]? with
 | some lp => match xDok l bef π R lp with
  | true => aAO (xW w call lp R (List.range lp.length) fr h)
  | false => none
 | none => none
def aAj (v : AV) : (AV → Fr) → Fr := @AV.rec (fun _ => (AV → Fr) → Fr) (fun _ => PUnit) (fun k => k .undef) (fun a n k => k (.int a n)) (fun b k => k (.bool b)) (fun s k => k (.str s)) (fun l _ k => k (.agg l)) (fun l _ k => k (.tup l)) (fun p k => k (.ptr p)) (fun k => k .nilP) (fun p n e f k => k (.sl p n e f)) (fun k => k .nilS) (fun i k => k (.map i)) (fun k => k .nilM) (fun f a b _ _ k => k (.fn f a b)) (fun i k => k (.yld i)) (fun k => k .nilF) (fun t v _ k => k (.ifc t v)) (fun k => k .nilI) PUnit.unit (fun _ _ _ _ => PUnit.unit) v
def xkp (l : List Nat) : Fr → Fr := @List.rec Nat (fun _ => Fr → Fr) (fun _ => []) (fun t _ ih fr => aAj (lV fr t) fun v => (t,v) :: ih fr) l
structure XEv where
 w0 : World
 tab : XT SF
 orc : Nat → List AV → XA
 prm : List MIx → Option (List Nat × List (List Nat))
structure XC where
 X : XEv
 call : LE → iL
 fuel : Nat
 r : Option Nat
 nt : Nat
 E : LE
def exK (e : Exit) (p : dM) (k : dM) : dM := @Exit.rec (fun _ => dM → dM → dM) (fun _ k => k) (fun _ p _ => p) (fun _ p _ => p) (fun p _ => p) (fun _ p _ => p) (fun p _ => p) e p k
def xLp (body : Fr → XH → dM) (keep : List Nat) (n : Nat) : Fr → XH → dM := @Nat.rec (fun _ => Fr → XH → dM) (fun _ _ => none)
 (fun _ ih fr h => @Option.rec (Exit × Fr × XH) (fun _ => dM) none (fun p => exK p.1 (some p) (ih (xkp keep p.2.1) p.2.2)) (body fr h)) n
def xrOk (r : Option Nat) (h : XH) : Bool :=
 match r with
 | none => true
 | some i => match h.at_ i with
  | some (.loop _ _ _ _ _ _ _) => true
  | _ => false
def aC5 (fr : Fr) (h : XH) : Option Code → dM
 | none => some (.normal,fr,h)
 | some .ret => some (.ret,fr,h)
 | some (.exit id) => some (.exit id,fr,h)
 | _ => none
def isFn (v : AV) : Bool := match v with
 | .fn (.func _) _ _ => true
 | _ => false
def xrng (f : Opd) (ps : Array Tmp) (ca cb : Code) (ma mb : SC) (c : XC) (fr : Fr) (h : XH) : dM :=
 match xrOk c.r h && isFn (oev f fr) with
 | true => match c.call ((h.n,ma,mb) :: c.E) (oev f fr) [.yld h.n] (h.push (.loop c.nt fr ps ca cb .ready none)) with
  | some p => match p.2.at_ h.n with
   | some (.loop _ _ _ _ _ st pd) => match st with
    | .busy => none
    | _ => aC5 fr (p.2.put h.n none) pd
   | _ => none
  | none => none
 | false => none
def xblk (id : Nat) (o : dM) : dM := match o with
 | some (.exit i,fr,h) => match Nat.beq i id with
  | true => some (.normal,fr,h)
  | false => some (.exit i,fr,h)
 | x => x
def yX (o : dM) : dM := match o with
 | some (.goto _,_,_) => none
 | x => x
def aC9 (l : List MIx) (bef : List (List Nat)) (c : XC) (fr : Fr) (h : XH) : dM := match c.X.prm l with
 | some p => xD c.X.w0 (c.call c.E) l bef p.1 p.2 fr h
 | none => none
def xS (s : SC) : XC → Fr → XH → dM := @SC.rec (fun _ => XC → Fr → XH → dM)
 (fun _ fr h => some (.normal,fr,h))
 (fun _ fr h => some (.ret,fr,h))
 (fun id _ fr h => some (.exit id,fr,h))
 (fun l c fr h => aAO (xO l c.X.w0 (c.call c.E) fr h))
 (fun fl l bef c fr h => @List.rec Bool (fun _ => dM) (aC9 l bef c fr h) (fun _ _ _ => aAO (xO l c.X.w0 (c.call c.E) fr h)) fl)
 (fun _ _ ia ib c fr h => @Option.rec (Exit × Fr × XH) (fun _ => dM) none (fun p => exK p.1 (some p) (ib c p.2.1 p.2.2)) (ia c fr h))
 (fun o _ _ ia ib => @Opd.rec (fun _ => XC → Fr → XH → dM)
  (fun t c fr h => @Option.rec Bool (fun _ => dM) none (fun b => @Bool.rec (fun _ => dM) (ib c ((t,.bool false) :: fr) h) (ia c ((t,.bool true) :: fr) h) b) (dD (lV fr t)))
  (fun v c fr h => @Option.rec Bool (fun _ => dM) none (fun b => @Bool.rec (fun _ => dM) (ib c fr h) (ia c fr h) b) (dD v)) o)
 (fun id _ ia c fr h => xblk id (ia c fr h))
 (fun keep _ ia c fr h => xLp (ia c) keep c.fuel (xkp keep fr) h)
 (fun f ps ca cb ma mb _ _ c fr h => xrng f ps ca cb ma mb c fr h)
 (fun _ _ fr h => some (.normal,fr,h))
 (fun _ ia c fr h => yX (ia c fr h))
 (fun _ _ _ _ _ _ _ _ => none) (fun _ _ _ _ _ _ _ => none) (fun _ _ _ _ _ _ _ _ => none) s
def yY (rec_ : LoopState → Option Code → Blk) (i : Nat) (h : XH) : Exit → XR
 | .normal => some (.bool true,h.put i (some (rec_ .ready none)))
 | .ret => some (.bool false,h.put i (some (rec_ .done (some .ret))))
 | .exit id => some (.bool false,h.put i (some (rec_ .done (some (.exit id)))))
 | _ => none
def aC0 (r : RV) : World → Fr → XH → XA := @RV.rec (fun _ => World → Fr → XH → XA) (fun n _ fr _ => some (lV fr n)) (fun n g w fr h => @Option.rec Pl (fun _ => XA) none (fun p => xrdv w h p g) (gQ (lV fr n))) r
def xresL (l : List RV) : World → Fr → XH → Option (List AV) := @List.rec RV (fun _ => World → Fr → XH → Option (List AV)) (fun _ _ _ => some [])
 (fun r _ ih w fr h => @Option.rec AV (fun _ => Option (List AV)) none (fun v => xZ v (ih w fr h)) (aC0 r w fr h)) l
def tupL (l : List AV) : AV := @List.rec AV (fun _ => AV) (.tup []) (fun v r _ => @List.rec AV (fun _ => AV) v (fun a b _ => .tup (v :: a :: b)) r) l
def xres (rs : List RV) (w : World) (fr : Fr) (h : XH) : XR := @Option.rec (List AV) (fun _ => XR) none (fun l => some (tupL l,h)) (xresL rs w fr h)
def exR (e : Exit) (k : XR) : XR := @Exit.rec (fun _ => XR → XR) (fun k => k) (fun _ _ => none) (fun _ _ => none) (fun k => k) (fun _ _ => none) (fun _ => none) e k
def xret (w : World) (rs : List RV) (o : dM) : XR := @Option.rec (Exit × Fr × XH) (fun _ => XR) none (fun p => exR p.1 (xres rs w p.2.1 p.2.2)) o
def aC6 (l : List AV) : Nat → Fr := @List.rec AV (fun _ => Nat → Fr) (fun _ => []) (fun v _ ih n => (n,v) :: ih (Nat.add n 1)) l
def callF (X : XEv) (n : Nat) (ih : LE → iL) (E : LE) (f : Nat) (args : List AV) (h : XH) : XR := @Option.rec AV (fun _ => XR)
 (@Option.rec SF (fun _ => XR) none (fun mf => @Bool.rec (fun _ => XR) none (xret X.w0 mf.res (xS mf.body ⟨X,ih,n,none,mf.nt,E⟩ (aC6 args 0) h)) (Nat.ble (uA args) mf.nt)) (tget X.tab (Nat.add f 1)))
 (fun v => some (v,h)) (X.orc f args)
def yW (X : XEv) (n : Nat) (ih : LE → iL) (E : LE) (i : Nat) (args : List AV) (h : XH) : XR :=
 match h.at_ i,xE i E with
 | some (.loop nt fr0 ps ca cb .ready none),some p => match Nat.beq args.length ps.size with
  | true => match xS p.1 ⟨X,ih,n,some i,nt,E⟩ (jG fr0 ps.toList args) h with
   | some (.normal,fr1,h1) => match h1.at_ i with
    | some (.loop _ _ _ _ _ .ready none) => match xS p.2 ⟨X,ih,n,some i,nt,E⟩ fr1 (h1.put i (some (.loop nt fr0 ps ca cb .busy none))) with
     | some (e,_,h2) => match h2.at_ i with
      | some (.loop _ _ _ _ _ _ _) => yY (.loop nt fr0 ps ca cb) i h2 e
      | _ => none
     | none => none
    | _ => none
   | _ => none
  | false => none
 | _,_ => none
def fnK (v : AV) : (Nat → List AV → List AV → XR) → (Nat → XR) → XR := @AV.rec (fun _ => (Nat → List AV → List AV → XR) → (Nat → XR) → XR) (fun _ => PUnit) (fun _ _ => none) (fun _ _ => fun _ _ => none) (fun _ => fun _ _ => none) (fun _ => fun _ _ => none) (fun _ _ => fun _ _ => none) (fun _ _ => fun _ _ => none) (fun _ => fun _ _ => none) (fun _ _ => none) (fun _ _ _ _ => fun _ _ => none) (fun _ _ => none) (fun _ => fun _ _ => none) (fun _ _ => none) (fun f a b _ _ k _ => @Fn.rec (fun _ => XR) (fun f => k f a b) (fun _ => none) (fun _ _ => none) (fun _ _ _ _ => none) (fun _ => none) f) (fun i _ k => k i) (fun _ _ => none) (fun _ _ _ => fun _ _ => none) (fun _ _ => none) PUnit.unit (fun _ _ _ _ => PUnit.unit) v
def xC (X : XEv) (n : Nat) : LE → iL := @Nat.rec (fun _ => LE → iL) (fun _ _ _ _ => none)
 (fun n ih E fv as h => fnK fv (fun f first capt => callF X n ih E f (rT (rT first as) capt) h) (fun i => yW X n ih E i as h)) n
end
theorem nU {α : Type} (x y : α) (b : Bool) : @Bool.rec (fun _ => α) x y b = if b = true then y else x := by cases b <;> rfl
theorem vE (k : Nat) : jS .e k = none := rfl
theorem hY (v : Option Blk) (l r : XT Blk) (k : Nat) : jS (.n v l r) k = if k = 1 then v else if k % 2 = 0 then jS l (k / 2) else jS r (k / 2) := by
 show @Bool.rec (fun _ => Option Blk) (@Bool.rec (fun _ => Option Blk) (jS r (k / 2)) (jS l (k / 2)) (Nat.beq (k % 2) 0)) v (Nat.beq k 1) = _
 simp only [nU,aL]
theorem tmk_s (f j : Nat) (b : Option Blk) : tmk (f + 1) j b = if j = 1 then .n b .e .e else if j % 2 = 0 then .n none (tmk f (j / 2) b) .e else .n none .e (tmk f (j / 2) b) := by
 show @Bool.rec (fun _ => XT Blk) (@Bool.rec (fun _ => XT Blk) (.n none .e (tmk f (j / 2) b)) (.n none (tmk f (j / 2) b) .e) (Nat.beq (j % 2) 0)) (.n b .e .e) (Nat.beq j 1) = _
 simp only [nU,aL]
theorem tset_n (v : Option Blk) (l r : XT Blk) (j : Nat) (b : Option Blk) : rU (.n v l r) j b = if j = 1 then .n b l r else if j % 2 = 0 then .n v (rU l (j / 2) b) r else .n v l (rU r (j / 2) b) := by
 show @Bool.rec (fun _ => XT Blk) (@Bool.rec (fun _ => XT Blk) (.n v l (rU r (j / 2) b)) (.n v (rU l (j / 2) b) r) (Nat.beq (j % 2) 0)) (.n b l r) (Nat.beq j 1) = _
 simp only [nU,aL]
theorem yJ (b : Option Blk) : ∀ (f j k : Nat),1 ≤ j → j ≤ f + 1 → 1 ≤ k → jS (tmk f j b) k = if j = k then b else none
 | 0,j,k,h1,h2,h3 => by
  have : j = 1 := by omega
  subst this
  show jS (.n b .e .e) k = _
  rw [hY]
  simp only [vE,ite_self,eq_comm (a := 1)]
 | f + 1,j,k,h1,h2,h3 => by
  rw [tmk_s]
  by_cases e1 : j = 1
  · subst e1
    rw [if_pos rfl,hY]; simp only [vE,ite_self,eq_comm (a := 1)]
  · rw [if_neg e1]
    have ih := yJ b f (j / 2) (k / 2) (by omega) (by omega)
    by_cases e2 : j % 2 = 0
    · rw [if_pos e2,hY]
      by_cases e3 : k = 1
      · rw [if_pos e3,if_neg (by omega)]
      · rw [if_neg e3]
        by_cases e4 : k % 2 = 0
        · rw [if_pos e4,ih (by omega)]
          by_cases e5 : j = k
          · rw [if_pos e5,if_pos (by omega)]
          · rw [if_neg e5,if_neg (by omega)]
        · rw [if_neg e4,vE,if_neg (by omega)]
    · rw [if_neg e2,hY]
      by_cases e3 : k = 1
      · rw [if_pos e3,if_neg (by omega)]
      · rw [if_neg e3]
        by_cases e4 : k % 2 = 0
        · rw [if_pos e4,vE,if_neg (by omega)]
        · rw [if_neg e4,ih (by omega)]
          by_cases e5 : j = k
          · rw [if_pos e5,if_pos (by omega)]
          · rw [if_neg e5,if_neg (by omega)]
theorem kH (b : Option Blk) : ∀ (t : XT Blk) (j k : Nat),1 ≤ j → 1 ≤ k → jS (rU t j b) k = if j = k then b else jS t k
 | .e,j,k,h1,h3 => by
  show jS (tmk j j b) k = _
  rw [yJ b j j k h1 (by omega) h3]; rfl
 | .n v l r,j,k,h1,h3 => by
  rw [tset_n]
  by_cases e1 : j = 1
  · subst e1
    rw [if_pos rfl,hY,hY]
    by_cases e : k = 1
    · subst e; simp
    · rw [if_neg e,if_neg (c := 1 = k) (fun h => e h.symm),if_neg e]
  · rw [if_neg e1]
    have il := kH b l (j / 2) (k / 2) (by omega)
    have ir := kH b r (j / 2) (k / 2) (by omega)
    by_cases e2 : j % 2 = 0
    · rw [if_pos e2,hY,hY]
      by_cases e3 : k = 1
      · rw [if_pos e3,if_neg (by omega),if_pos e3]
      · rw [if_neg e3,if_neg e3]
        by_cases e4 : k % 2 = 0
        · rw [if_pos e4,if_pos e4,il (by omega)]
          by_cases e5 : j = k
          · rw [if_pos e5,if_pos (by omega)]
          · rw [if_neg e5,if_neg (by omega)]
        · rw [if_neg e4,if_neg e4,if_neg (by omega)]
    · rw [if_neg e2,hY,hY]
      by_cases e3 : k = 1
      · rw [if_pos e3,if_neg (by omega),if_pos e3]
      · rw [if_neg e3,if_neg e3]
        by_cases e4 : k % 2 = 0
        · rw [if_pos e4,if_pos e4,if_neg (by omega)]
        · rw [if_neg e4,if_neg e4,ir (by omega)]
          by_cases e5 : j = k
          · rw [if_pos e5,if_pos (by omega)]
          · rw [if_neg e5,if_neg (by omega)]
section
variable {x x' : XH} {i : Nat} {b : Blk} {o : Option Blk} {fr : Fr} {w : World}
theorem dW : x.toH.length = x.n := by simp [XH.toH]
theorem mI (x : XH) (i : Nat) : x.toH[i]? = if i < x.n then some (jS x.t (i + 1)) else none := by
 simp only [XH.toH,List.getElem?_map]
 by_cases h : i < x.n
 · rw [List.getElem?_range h,if_pos h]; rfl
 · rw [List.getElem?_eq_none (by simp; omega),if_neg h]; rfl
theorem lZ : x.at_ i = some b ↔ x.toH[i]? = some (some b) := by
 rw [mI]
 show @Bool.rec (fun _ => Option Blk) none (jS x.t (i + 1)) (Nat.ble (i + 1) x.n) = some b ↔ _
 rw [nU]
 by_cases h : i < x.n
 · rw [if_pos (Nat.ble_eq_true_of_le h),if_pos h]; simp
 · rw [if_neg (fun e => h (qE e)),if_neg h]; simp
theorem iA : (x.push b).toH = x.toH ++ [some b] := by
 apply List.ext_getElem?
 intro i
 rw [mI]
 show (if i < x.n + 1 then some (jS (rU x.t (x.n + 1) (some b)) (i + 1)) else none) = _
 rw [kH _ _ _ _ (by omega) (by omega)]
 rcases Nat.lt_trichotomy i x.n with h | h | h
 · rw [if_pos (by omega),if_neg (by omega),qH (by rw [dW]; exact h),mI,if_pos h]
 · subst h
   rw [if_pos (by omega),if_pos rfl,qI (by rw [dW]; omega),dW]; simp
 · rw [if_neg (by omega),List.getElem?_eq_none (by simp [dW]; omega)]
theorem fZ : (x.put i o).toH = x.toH.set i o := by
 apply List.ext_getElem?
 intro k
 rw [mI]
 show (if k < x.n then some (jS (rU x.t (i + 1) o) (k + 1)) else none) = _
 rw [kH _ _ _ _ (by omega) (by omega)]
 by_cases h : i = k
 · subst h
   rw [if_pos rfl]
   by_cases h : i < x.n
   · rw [if_pos h,qF (by rw [dW]; exact h)]
   · rw [if_neg h,List.getElem?_eq_none (by rw [List.length_set,dW]; omega)]
 · rw [qB h,mI,if_neg (c := i + 1 = k + 1) (by omega)]
theorem mE {c : List AV} : rS x i = some c ↔ x.toH[i]? = some (some (.row c)) := by
 rw [← lZ]
 unfold rS rowBX
 cases x.at_ i with
 | none => simp
 | some b => cases b <;> simp
theorem pI {c : List (AV × AV)} : xmap x i = some c ↔ x.toH[i]? = some (some (.map c)) := by
 rw [← lZ]
 unfold xmap mapB_
 cases x.at_ i with
 | none => simp
 | some b => cases b <;> simp
end
theorem fG : ∀ (fr : Fr) (t : Nat),lV fr t = fr.get t
 | [],_ => rfl
 | (k,v) :: r,t => by
  show @Bool.rec (fun _ => AV) (lV r t) v (Nat.beq t k) = if Nat.beq t k then v else Fr.get r t
  rw [nU,fG r t]
theorem aY (o : Opd) (fr : Fr) : oev o fr = o.ev fr := by cases o <;> first | rfl | exact fG _ _
theorem aAn (l : List Opd) (fr : Fr) : evs l fr = l.map (·.ev fr) := by
 induction l with
 | nil => rfl
 | cons o l ih => show oev o fr :: evs l fr = _; rw [aY,ih]; rfl
theorem eQ {v : AV} {a : Int} (h : jH v = some a) : v = .int .i64 a := by
 cases v with
 | int k n => cases k <;> first | (cases h; done) | (cases h; rfl)
 | _ => cases h
theorem dP {v : AV} {a : Bool} (h : dD v = some a) : v = .bool a := by cases v <;> first | (cases h; done) | (cases h; rfl)
theorem gJ {v : AV} {a : Pl} (h : gQ v = some a) : v = .ptr a := by cases v <;> first | (cases h; done) | (cases h; rfl)
theorem eT {v : AV} {a : List AV} (h : fY v = some a) : v = .agg a := by cases v <;> first | (cases h; done) | (cases h; rfl)
theorem aDi {v : AV} {a : List AV} (h : aDj v = some a) : v = .tup a := by cases v <;> first | (cases h; done) | (cases h; rfl)
theorem qT {v : AV} {a : Nat} (h : wZ v = some a) : v = .map a := by cases v <;> first | (cases h; done) | (cases h; rfl)
theorem nI {v : AV} {k : Pl → Nat → Nat → Bool → XR} {z d : XR} {p : AV × XH} (h : zJ v k z d = some p) : (∃ q n e f,v = .sl q n e f ∧ k q n e f = some p) ∨ (v = .nilS ∧ z = some p) ∨ d = some p := by
 cases v with
 | sl q n e f => exact .inl ⟨q,n,e,f,rfl,h⟩
 | nilS => exact .inr (.inl ⟨rfl,h⟩)
 | _ => exact .inr (.inr h)
theorem hJ {α β : Type} {n : Option β} {s : α → Option β} {o : Option α} {p : β} (h : @Option.rec α (fun _ => Option β) n s o = some p) : (o = none ∧ n = some p) ∨ ∃ a,o = some a ∧ s a = some p := by
 cases o with
 | none => exact .inl ⟨rfl,h⟩
 | some a => exact .inr ⟨a,rfl,h⟩
theorem aV {α β : Type} {s : α → Option β} {o : Option α} {p : β} (h : @Option.rec α (fun _ => Option β) none s o = some p) : ∃ a,o = some a ∧ s a = some p := by
 cases o with
 | none => cases h
 | some a => exact ⟨a,rfl,h⟩
theorem eS {β : Type} {y : Option β} {b : Bool} {p : β} (h : @Bool.rec (fun _ => Option β) none y b = some p) : b = true ∧ y = some p := by
 cases b with
 | false => cases h
 | true => exact ⟨rfl,h⟩
theorem dY {x : XH} {v : XA} {p : AV × XH} (h : gS x v = some p) : ∃ u,v = some u ∧ p = (u,x) := by
 obtain ⟨a,e,h⟩ := aV h
 exact ⟨a,e,(Option.some.inj h).symm⟩
theorem wH (m n : Nat) : sI m n = (m : Int) - n := by
 unfold sI
 rw [nU]
 split
 · rename_i h
   have := qE h
   show ((m - n : Nat) : Int) = _
   omega
 · rename_i h
   have : ¬ n ≤ m := fun e => h (Nat.ble_eq_true_of_le e)
   show Int.negSucc (n - m - 1) = _
   rw [Int.negSucc_eq]; omega
theorem aBp (a b : Int) : iadd a b = a + b := by
 cases a with
 | ofNat m => cases b with
  | ofNat n => show ((m + n : Nat) : Int) = (m : Int) + (n : Int); omega
  | negSucc n => show sI m (n + 1) = (m : Int) + _; rw [wH,Int.negSucc_eq]; omega
 | negSucc m => cases b with
  | ofNat n => show sI n (m + 1) = _ + (n : Int); rw [wH,Int.negSucc_eq]; omega
  | negSucc n => show Int.negSucc (m + n + 1) = _; rw [Int.negSucc_eq,Int.negSucc_eq,Int.negSucc_eq]; omega
theorem qY (n : Nat) : tC n = -(n : Int) := by
 cases n with
 | zero => rfl
 | succ m => show Int.negSucc m = _; rw [Int.negSucc_eq]; rfl
theorem aG3 (a : Int) : ineg a = -a := by
 cases a with
 | ofNat m => exact qY m
 | negSucc m => show ((m + 1 : Nat) : Int) = _; rw [Int.negSucc_eq]; omega
theorem aGX (a b : Int) : isub a b = a - b := by unfold isub; rw [aBp,aG3]; omega
theorem aG4 (a b : Int) : imul a b = a * b := by
 cases a with
 | ofNat m => cases b with
  | ofNat n => exact Int.natCast_mul m n
  | negSucc n => show tC (m * (n + 1)) = (m : Int) * _; rw [qY,Int.negSucc_eq,Int.mul_neg,Int.natCast_mul]; rfl
 | negSucc m => cases b with
  | ofNat n => show tC ((m + 1) * n) = _ * (n : Int); rw [qY,Int.negSucc_eq,Int.neg_mul,Int.natCast_mul]; rfl
  | negSucc n => show (((m + 1) * (n + 1) : Nat) : Int) = _; rw [Int.negSucc_eq,Int.negSucc_eq,Int.neg_mul_neg,Int.natCast_mul]; rfl
theorem lS (a b : Int) : ile a b = decide (a ≤ b) := by
 cases a with
 | ofNat m => cases b with
  | ofNat n =>
   show Nat.ble m n = decide ((m : Int) ≤ (n : Int))
   cases h : Nat.ble m n with
   | true => have := qE h; simp; omega
   | false => have : ¬ m ≤ n := fun e => by rw [Nat.ble_eq_true_of_le e] at h; cases h
              simp; omega
  | negSucc n => show false = decide ((m : Int) ≤ _); rw [Int.negSucc_eq]; simp; omega
 | negSucc m => cases b with
  | ofNat n => show true = decide (_ ≤ (n : Int)); rw [Int.negSucc_eq]; simp; omega
  | negSucc n =>
   show Nat.ble n m = _
   rw [Int.negSucc_eq,Int.negSucc_eq]
   cases h : Nat.ble n m with
   | true => have := qE h; simp; omega
   | false => have : ¬ n ≤ m := fun e => by rw [Nat.ble_eq_true_of_le e] at h; cases h
              simp; omega
theorem aAf (a b : Int) : ieq a b = (a == b) := by
 rw [Bool.eq_iff_iff,beq_iff_eq]
 cases a with
 | ofNat m => cases b with
  | ofNat n => show Nat.beq m n = true ↔ (m : Int) = (n : Int); rw [aL]; omega
  | negSucc n => show false = true ↔ (m : Int) = _; rw [Int.negSucc_eq]; simp; omega
 | negSucc m => cases b with
  | ofNat n => show false = true ↔ _ = (n : Int); rw [Int.negSucc_eq]; simp; omega
  | negSucc n => show Nat.beq m n = true ↔ _; rw [aL,Int.negSucc_eq,Int.negSucc_eq]; omega
theorem pB (b : Bool) : aAw b = !b := by cases b <;> rfl
theorem xP (a : Int) : in64 a = true ↔ -9223372036854775808 ≤ a ∧ a ≤ 9223372036854775807 := by
 cases a with
 | ofNat m =>
  show Nat.ble m 9223372036854775807 = true ↔ -9223372036854775808 ≤ (m : Int) ∧ (m : Int) ≤ 9223372036854775807
  exact ⟨fun h => by have := qE h; omega,fun h => Nat.ble_eq_true_of_le (by omega)⟩
 | negSucc m =>
  show Nat.ble m 9223372036854775807 = true ↔ _
  rw [Int.negSucc_eq]
  exact ⟨fun h => by have := qE h; omega,fun h => Nat.ble_eq_true_of_le (by omega)⟩
theorem mG {a : Int} {v : AV} (h : wA a = some v) : dI .i64 a = some v := by
 obtain ⟨h1,h2⟩ := eS h
 rw [← h2]
 have h3 := (xP a).1 h1
 unfold dI inK
 rw [if_pos]
 simp only [Bool.and_eq_true,decide_eq_true_eq]
 exact ⟨by show -(2 ^ (64 - 1) : Int) ≤ a; have : (2 ^ (64 - 1) : Int) = 9223372036854775808 := by decide
           omega, by show a ≤ (2 ^ (64 - 1) - 1 : Int); have : (2 ^ (64 - 1) : Int) = 9223372036854775808 := by decide
                     omega⟩
theorem aCX (a : Int) : aCY a = some (.int .i64 (IntKind.i64.wrap a)) := by
 unfold aCY
 rw [nU]
 split
 · rename_i h
   have h3 := (xP a).1 h
   have := kP (n := a) (by unfold I64; omega)
   unfold wi at this
   rw [this]
 · rfl
theorem eP {f : Int → Int → XA} {op : BinOp} {x y v : AV} (k : ∀ a b v,f a b = some v → bin op (.int .i64 a) (.int .i64 b) = some v) (h : oM f op x y = some v) : bin op x y = some v := by
 rcases hJ h with ⟨_,h⟩ | ⟨a,e1,h⟩
 · exact h
 · rcases hJ h with ⟨_,h⟩ | ⟨b,e2,h⟩
   · exact h
   · rw [eQ e1,eQ e2]; exact k _ _ _ h
theorem jO {a : Int} {n : Nat} (h : sS a = some n) : a = (n : Int) := by cases a <;> first | (cases h; done) | (cases h; rfl)
theorem aFf {op : BinOp} {x y v : AV} (h : xbin op x y = some v) : bin op x y = some v := by
 cases op
 case add => exact eP (op := .add) (fun a b v e => by rw [aBp] at e; exact mG e) h
 case sub => exact eP (op := .sub) (fun a b v e => by rw [aGX,aCX] at e; exact e) h
 case mul => exact eP (op := .mul) (fun a b v e => by rw [aG4] at e; exact mG e) h
 case quo =>
  refine eP (op := .quo) (fun a b v e => ?_) h
  rcases hJ e with ⟨_,e⟩ | ⟨m,e1,e⟩
  · exact e
  · rcases hJ e with ⟨_,e⟩ | ⟨n,e2,e⟩
    · exact e
    · rw [nU] at e
      split at e
      · cases e
      · rename_i hn
        rw [aL] at hn
        have := mG e
        rw [jO e1,jO e2]
        show (if (n : Int) = 0 then none else dI .i64 ((m : Int).tdiv n)) = _
        rw [if_neg (by omega)]
        exact this
 case rem =>
  refine eP (op := .rem) (fun a b v e => ?_) h
  rcases hJ e with ⟨_,e⟩ | ⟨m,e1,e⟩
  · exact e
  · rcases hJ e with ⟨_,e⟩ | ⟨n,e2,e⟩
    · exact e
    · rw [nU] at e
      split at e
      · cases e
      · rename_i hn
        rw [aL] at hn
        rw [jO e1,jO e2]
        show (if (n : Int) = 0 then none else some (AV.int .i64 ((m : Int).tmod n))) = _
        rw [if_neg (by omega)]
        exact e
 case and => exact h
 case or => exact h
 case xor => exact h
 case shl => exact h
 case shr => exact h
 case andNot => exact h
 case eql => exact eP (op := .eql) (fun a b v e => by rw [aAf] at e; exact e) h
 case neq => exact eP (op := .neq) (fun a b v e => by rw [aAf,pB] at e; exact e) h
 case lss => exact eP (op := .lss) (fun a b v e => by rw [lS,pB] at e; rw [← e]; show some (AV.bool (decide (a < b))) = _; rw [← decide_not]; simp only [Int.not_le]) h
 case leq => exact eP (op := .leq) (fun a b v e => by rw [lS] at e; exact e) h
 case gtr => exact eP (op := .gtr) (fun a b v e => by rw [lS,pB] at e; rw [← e]; show some (AV.bool (decide (a > b))) = _; rw [← decide_not]; simp only [Int.not_le]) h
 case geq => exact eP (op := .geq) (fun a b v e => by rw [lS] at e; exact e) h
theorem jV : ∀ l : List AV,uA l = l.length
 | [] => rfl
 | _ :: l => by show uA l + 1 = _; rw [jV l]; rfl
theorem oU : ∀ (l : List AV) (n : Nat),vnth l n = l[n]?
 | [],_ => rfl
 | _ :: _,0 => rfl
 | _ :: l,n + 1 => by show vnth l n = _; rw [oU l n]; rfl
theorem pP : ∀ {n : Nat} {l d : List AV},wD n l = some d → n ≤ l.length ∧ d = l.drop n
 | 0,l,d,h => by cases h; exact ⟨Nat.zero_le _,rfl⟩
 | n + 1,[],d,h => by cases h
 | n + 1,_ :: l,d,h => by
  obtain ⟨h1,h2⟩ := pP (n := n) (l := l) h
  exact ⟨Nat.succ_le_succ h1,h2⟩
theorem mW {v : AV} {o : Option (List AV)} {d : List AV} (h : xZ v o = some d) : ∃ r,o = some r ∧ d = v :: r := by
 cases o with
 | none => cases h
 | some r => cases h; exact ⟨r,rfl,rfl⟩
theorem pO : ∀ {n : Nat} {l d : List AV},wC n l = some d → n ≤ l.length ∧ d = l.take n
 | 0,l,d,h => by cases h; exact ⟨Nat.zero_le _,rfl⟩
 | n + 1,[],d,h => by cases h
 | n + 1,v :: l,d,h => by
  obtain ⟨r,hr,rfl⟩ := mW (v := v) (o := wC n l) h
  obtain ⟨h1,h2⟩ := pO hr
  exact ⟨Nat.succ_le_succ h1,by rw [h2]; rfl⟩
theorem aAQ : ∀ {l c d : List AV},vlay l c = some d → l.length ≤ c.length ∧ d = l ++ c.drop l.length
 | [],c,d,h => by cases h; exact ⟨Nat.zero_le _,rfl⟩
 | x :: l,[],d,h => by cases h
 | x :: l,_ :: c,d,h => by
  obtain ⟨r,hr,rfl⟩ := mW (v := x) (o := vlay l c) h
  obtain ⟨h1,h2⟩ := aAQ hr
  exact ⟨Nat.succ_le_succ h1,by rw [h2]; rfl⟩
theorem tZ : ∀ {o : Nat} {l c d : List AV},aB4 o l c = some d → o + l.length ≤ c.length ∧ d = bF c o l
 | 0,l,c,d,h => by
  obtain ⟨h1,h2⟩ := aAQ (l := l) (c := c) h
  exact ⟨by omega,by rw [h2]; simp [bF]⟩
 | o + 1,l,[],d,h => by cases h
 | o + 1,l,v :: c,d,h => by
  obtain ⟨r,hr,rfl⟩ := mW (v := v) (o := aB4 o l c) h
  obtain ⟨h1,h2⟩ := tZ hr
  refine ⟨by simp only [List.length_cons]; omega,?_⟩
  rw [h2]
  simp only [bF,List.take_succ_cons,List.cons_append,show o + 1 + l.length = (o + l.length) + 1 by omega,List.drop_succ_cons]
theorem jW : ∀ l r : List AV,rT l r = l ++ r
 | [],_ => rfl
 | v :: l,r => by show v :: rT l r = _; rw [jW l r]; rfl
theorem aFc (v : AV) : xone v = one v := by cases v <;> rfl
theorem oT : ∀ l : List AV,aB5 l = l.all one
 | [] => rfl
 | v :: l => by
  show @Bool.rec (fun _ => Bool) false (aB5 l) (xone v) = _
  rw [aFc,oT l]
  cases h : one v <;> simp [h]
theorem nG {v : AV} {l : List AV} (h : kW v = some l) : cellsOf v = some l := by
 cases v with
 | undef => cases h
 | tup l => cases h
 | agg c =>
  obtain ⟨h1,h2⟩ := eS (y := some c) (b := aB5 c) h
  cases h2
  rw [oT] at h1
  simp only [cellsOf,h1,if_true]
 | _ => exact h
section
variable {w : World} {x x' : XH} {v : AV} {fr : Fr} {p : Pl} {n es : Nat} {l : List AV}
theorem oQ (h : tU w x p n = some l) : rdn w x.toH p n = some l := by
 cases p with
 | old a => exact h
 | own i o =>
  obtain ⟨c,hc,h⟩ := aV (o := rS x i) h
  obtain ⟨d,hd,h⟩ := aV (o := wD o c) h
  obtain ⟨h1,rfl⟩ := pP hd
  obtain ⟨h2,rfl⟩ := pO h
  rw [List.length_drop] at h2
  simp only [rdn,mE.1 hc,if_pos (show o + n ≤ c.length by omega)]
theorem xrd_eq (h : xrd w x p = some v) : rd w x.toH p = some v := by
 cases p with
 | old a => exact h
 | own i o =>
  obtain ⟨c,hc,h⟩ := aV (o := rS x i) h
  rw [oU] at h
  simp only [rd,mE.1 hc]; exact h
theorem aAN {n : Option Nat} (h : xrdv w x p n = some v) : rdv w x.toH p n = some v := by
 cases n with
 | none => exact xrd_eq h
 | some n =>
  obtain ⟨l,hl,h⟩ := aV (o := tU w x p n) h
  cases h
  simp only [rdv,oQ hl]; rfl
theorem aFq {r : AV × XH} (h : stoP p n l x = some r) : ∃ i o c,p = .own i o ∧ x.toH[i]? = some (some (.row c)) ∧ (l.length = n ∧ o + n ≤ c.length) ∧ r = (.undef,x.put i (some (.row (bF c o l)))) := by
 cases p with
 | old a => cases h
 | own i o =>
  obtain ⟨h1,h⟩ := eS (b := Nat.beq (uA l) n) h
  obtain ⟨c,hc,h⟩ := aV (o := rS x i) h
  obtain ⟨d,hd,h⟩ := aV (o := aB4 o l c) h
  obtain ⟨h2,rfl⟩ := tZ hd
  rw [jV,aL] at h1
  cases h
  exact ⟨i,o,c,rfl,mE.1 hc,⟨h1,by omega⟩,rfl⟩
theorem uY {p : Pl} {a b : Nat} (h : esb p a b = true) : jA p a b = true := by
 cases p with
 | old a => rfl
 | own i o =>
  have := aL.1 (show Nat.beq a b = true from h)
  simp [jA,this]
theorem mM (p : Pl) (n : Nat) : wT p n = p.add n := by cases p <;> rfl
theorem pL : ∀ {ps : List (Nat × Nat × Opd)} {c d : List AV},vY ps fr c = some d → dA c (ps.map fun q => (q.1,q.2.1,q.2.2.ev fr)) = some d
 | [],c,d,h => h
 | q :: ps,c,d,h => by
  obtain ⟨l,hl,h⟩ := aV (o := kW (oev q.2.2 fr)) h
  obtain ⟨h1,h⟩ := eS (b := Nat.beq (uA l) q.2.1) h
  obtain ⟨e,he,h⟩ := aV (o := aB4 q.1 l c) h
  obtain ⟨h2,rfl⟩ := tZ he
  rw [jV,aL] at h1
  have hl2 := nG hl
  rw [aY] at hl2
  simp only [List.map_cons,dA,hl2]
  rw [if_pos ⟨h1,by omega⟩]
  exact pL h
theorem pG (z : List AV) : ∀ n,vT z n = dL z n
 | 0 => rfl
 | n + 1 => by show rT z (vT z n) = _; rw [jW,pG z n]; rfl
theorem nV (h : asN v = some n) : bY v = some n := by
 rcases hJ h with ⟨_,h⟩ | ⟨a,ha,h⟩
 · exact h
 · rw [eQ ha,jO h]
   simp only [bY]
   rw [if_pos (by omega)]; simp
theorem mF {c : List AV} {len : Nat} {full : Bool} {r : AV × XH} (h : vV x c len es full = some r) : eO x.toH c len es full = some (r.1,r.2.toH) := by
 cases h
 simp only [eO,iA,dW]
theorem aEB {a b : Bool} (h : @Bool.rec (fun _ => Bool) false b a = true) : a = true ∧ b = true := by
 cases a with
 | false => cases h
 | true => exact ⟨rfl,h⟩
theorem aE9 {y : AV} {k : Nat → List AV → XR} {r : AV × XH} (h : xsrc w x es y k = some r) : ∃ n l,fJ w x.toH es y = some (n,l) ∧ k n l = some r := by
 rcases nI h with ⟨q,n,e,f,rfl,h⟩ | ⟨rfl,h⟩ | h
 · obtain ⟨h1,h⟩ := eS (b := esb q es e) h
   obtain ⟨l,hl,h⟩ := aV (o := tU w x q (Nat.mul n es)) h
   have h2 : rdn w x.toH q (n * es) = some l := oQ hl
   refine ⟨n,l,?_,h⟩
   simp only [fJ,uY h1,if_true,h2]; rfl
 · exact ⟨0,[],rfl,h⟩
 · cases h
theorem aDh : (2 : Nat) ^ 40 = 1099511627776 := by decide
theorem aFg {a y : AV} {b : Nat} {r : AV × XH} (h : xapp w x es b a y = some r) : dR w x.toH es b a y = some (r.1,r.2.toH) := by
 obtain ⟨n,l,hs,h⟩ := aE9 h
 simp only [dR,hs,Option.bind_some]
 cases hn : Nat.beq n 0 with
 | true =>
  rw [hn] at h
  rw [if_pos (aL.1 hn)]
  rcases nI (v := a) h with ⟨q,k,e,f,rfl,h⟩ | ⟨rfl,h⟩ | h
  · cases h; rfl
  · cases h; rfl
  · cases h
 | false =>
  rw [hn] at h
  have hn' : ¬ n = 0 := fun e => by rw [e] at hn; cases hn
  rw [if_neg hn']
  rcases nI (v := a) h with ⟨q,k,e,f,rfl,h⟩ | ⟨rfl,h⟩ | h
  · obtain ⟨hc,h⟩ := eS h
    obtain ⟨h1,hc⟩ := aEB hc
    obtain ⟨h2,h3⟩ := aEB hc
    rw [oT] at h3
    have h2' : (k + n) * (b + 1) ≤ 2 ^ 40 := by rw [aDh]; exact qE h2
    simp only
    rw [if_pos ⟨uY h1,h2',h3⟩]
    cases f with
    | true =>
     obtain ⟨old,ho,h⟩ := aV (o := tU w x q (Nat.mul k es)) h
     have ho' : rdn w x.toH q (k * es) = some old := oQ ho
     rw [jW] at h
     rw [if_pos rfl,ho']
     exact mF h
    | false =>
     rw [if_neg (by simp)]
     cases q with
     | old a => cases h
     | own i o =>
      obtain ⟨old,ho,h⟩ := aV (o := tU w x (.own i o) (Nat.mul k es)) h
      have ho' : rdn w x.toH (.own i o) (k * es) = some old := oQ ho
      cases h
      simp only [ho',Option.bind_some,iA,fZ,dW,jW]
      rfl
  · obtain ⟨hc,h⟩ := eS h
    obtain ⟨h2,h3⟩ := aEB hc
    rw [oT] at h3
    have h2' : n * (b + 1) ≤ 2 ^ 40 := by rw [aDh]; exact qE h2
    simp only
    rw [if_pos ⟨h2',h3⟩]
    exact mF h
  · cases h
theorem aFd {i : Bool} {a b : AV} {t : Bool} (h : xceq i a b = some t) : ceq i a b = some t := by
 rcases hJ h with ⟨_,h⟩ | ⟨m,e1,h⟩
 · exact h
 · rcases hJ h with ⟨_,h⟩ | ⟨n,e2,h⟩
   · exact h
   · obtain ⟨h1,h⟩ := eS h
     rw [eQ e1,eQ e2]
     subst h1
     rw [aAf] at h
     exact h
theorem fst_eq {o : Option Bool} {b t : Bool} (h : fst_ o b = some t) : o.isSome = true ∧ t = b := by
 cases o with
 | none => cases h
 | some a => cases h; exact ⟨rfl,rfl⟩
theorem jL : ∀ {s : List Bool} {a b : List AV} {t : Bool},vZ s a b = some t → cI s a b = some t
 | [],a,b,t,h => h
 | i :: s,[],b,t,h => h
 | i :: s,u :: a,[],t,h => h
 | i :: s,u :: a,v :: b,t,h => by
  obtain ⟨e,he,h⟩ := aV (o := xceq i u v) h
  have he' := aFd he
  cases e with
  | true => simp only [cI,he']; exact jL h
  | false =>
   obtain ⟨h1,rfl⟩ := fst_eq (o := vZ s a b) h
   simp only [cI,he']
   obtain ⟨t,ht⟩ := Option.isSome_iff_exists.1 h1
   rw [jL ht]; rfl
theorem tW {s : Bool × List Bool} {a b : AV} {t : Bool} (h : xkeq s a b = some t) : keq s a b = some t := by
 obtain ⟨s1,s2⟩ := s
 cases s1 with
 | false => exact jL h
 | true =>
  obtain ⟨a',ha,h⟩ := aV (o := fY a) h
  obtain ⟨b',hb,h⟩ := aV (o := fY b) h
  rw [eT ha,eT hb]
  exact jL h
theorem pK {s : Bool × List Bool} {k : AV} : ∀ {es : List (AV × AV)} {i : Nat} {r : Option (Nat × AV)},aC8 s k es i = some r → fN s k es i = some r
 | [],i,r,h => h
 | e :: es,i,r,h => by
  obtain ⟨t,ht,h⟩ := aV (o := xkeq s k e.1) h
  simp only [fN,tW ht]
  cases t with
  | true => exact h
  | false => exact pK h
theorem zW (ok : Bool) (v : AV) (b : Bool) : okV ok v b = if ok then .tup [v,.bool b] else v := by cases ok <;> rfl
theorem aAa {z : AV} {ok : Bool} {m u : AV} (h : aBi z ok m = some u) : m = .nilM ∧ u = okV ok z false := by cases m <;> first | (cases h; done) | (cases h; exact ⟨rfl,rfl⟩)
theorem aC4 {s : Bool × List Bool} {z : AV} {ok : Bool} {m k : Opd} {r : AV × XH} (h : xlook s z ok x (m.ev fr) (k.ev fr) = some r) : aop w (.look s z ok m k) fr x.toH = some (r.1,r.2.toH) := by
 obtain ⟨t,ht,h⟩ := aV h
 simp only [aop,tW ht,Option.isNone_some,Bool.false_eq_true,if_false]
 rcases hJ h with ⟨_,h⟩ | ⟨i,hi,h⟩
 · obtain ⟨u,hu,rfl⟩ := dY h
   obtain ⟨h1,rfl⟩ := aAa hu
   rw [h1,zW]
 · rw [qT hi]
   obtain ⟨es,hes,h⟩ := aV h
   obtain ⟨q,hq,h⟩ := aV h
   simp only [pI.1 hes,pK hq]
   cases q with
   | none => cases h; simp only [zW]
   | some q => cases h; simp only [zW]
theorem aBy : ∀ (l : List (AV × AV)) (n : Nat) (y : AV × AV),eset l n y = l.set n y
 | [],_,_ => rfl
 | _ :: _,0,_ => rfl
 | a :: l,n + 1,y => by show a :: eset l n y = _; rw [aBy l n y]; rfl
theorem aBA : ∀ (l : List (AV × AV)) (y : AV × AV),eapp l y = l ++ [y]
 | [],_ => rfl
 | a :: l,y => by show a :: eapp l y = _; rw [aBA l y]; rfl
theorem aC3 {s : Bool × List Bool} {m k u : Opd} {r : AV × XH} (h : xmput s x (m.ev fr) (k.ev fr) (u.ev fr) = some r) : aop w (.mput s m k u) fr x.toH = some (r.1,r.2.toH) := by
 obtain ⟨t,ht,h⟩ := aV h
 simp only [aop,tW ht,Option.isNone_some,Bool.false_eq_true,if_false]
 obtain ⟨i,hi,h⟩ := aV h
 rw [qT hi]
 obtain ⟨es,hes,h⟩ := aV h
 obtain ⟨q,hq,h⟩ := aV h
 simp only [pI.1 hes,pK hq]
 cases q with
 | none => cases h; simp only [fZ,aBA]
 | some q => cases h; simp only [fZ,aBy]
theorem aBE (n b : Bool) : bxor n b = if n then !b else b := by cases n <;> cases b <;> rfl
theorem aBF (a b : Bool) : beqb a b = (a == b) := by cases a <;> cases b <;> rfl
theorem aDW {sl : Bool} {u : AV} {t : Bool} (h : aDX sl u = some t) : iW sl u = some t := by
 cases u <;> first | (cases h; done) | (cases sl <;> exact h)
theorem aDY {u : AV} {t : Bool} (h : aDZ u = some t) : nO u = some t := by cases u <;> first | (cases h; done) | exact h
theorem uS {neq : Bool} {o : Option Bool} {r : AV × XH} (h : negO neq o x = some r) : ∃ b,o = some b ∧ r = (.bool (if neq then !b else b),x) := by
 obtain ⟨b,hb,h⟩ := aV h
 cases h
 exact ⟨b,hb,by rw [aBE]⟩
theorem xun_eq {op : UnOp} {u v : AV} (h : xun op u = some v) : pQ op u = some v := by
 cases op with
 | not =>
  rcases hJ (o := dD u) h with ⟨_,h⟩ | ⟨b,hb,h⟩
  · exact h
  · rw [dP hb]; rw [pB] at h; exact h
 | _ => exact h
theorem aG7 {k : IntKind} {a n : Int} (h : i64P k a = some n) : k = .i64 ∧ n = a := by cases k <;> first | (cases h; done) | (cases h; exact ⟨rfl,rfl⟩)
theorem aDa {k : IntKind} {u v : AV} (h : xconv k u = some v) : aBB k u = some v := by
 rcases hJ h with ⟨_,h⟩ | ⟨a,ha,h⟩
 · exact h
 · rcases hJ h with ⟨_,h⟩ | ⟨n,hn,h⟩
   · exact h
   · obtain ⟨rfl,rfl⟩ := aG7 hn
     rw [eQ ha]
     exact mG h
theorem yZ {m : Bool} : ∀ {l : List AV} {u v : AV},xmm m l u = some v → mm m u l = some v
 | [],u,v,h => by cases u <;> exact h
 | y :: l,u,v,h => by
  rcases hJ (o := jH u) h with ⟨_,h⟩ | ⟨a,ha,h⟩
  · exact h
  · rcases hJ (o := jH y) h with ⟨_,h⟩ | ⟨b,hb,h⟩
    · exact h
    · rw [eQ ha,eQ hb]
      cases m with
      | true =>
       have := yZ (m := true) (l := l) (u := .int .i64 (@Bool.rec (fun _ => Int) b a (ile a b))) h
       rw [nU,lS] at this
       simp only [mm,if_true]
       rw [← this]
       congr 2
       by_cases hab : a ≤ b
       · rw [if_neg (by omega),if_pos (by simpa using hab)]
       · rw [if_pos (by omega),if_neg (by simpa using hab)]
      | false =>
       have := yZ (m := false) (l := l) (u := .int .i64 (@Bool.rec (fun _ => Int) b a (ile b a))) h
       rw [nU,lS] at this
       simp only [mm,Bool.false_eq_true,if_false]
       rw [← this]
       congr 2
       by_cases hab : b ≤ a
       · rw [if_neg (by omega),if_pos (by simpa using hab)]
       · rw [if_pos (by omega),if_neg (by simpa using hab)]
theorem yK {o : Option Opd} {d n : Nat} (h : aEA o d fr = some n) : (match o with | some x => bY (x.ev fr) | none => some d) = some n := by
 cases o with
 | none => exact h
 | some o => have := nV (v := oev o fr) h; rw [aY] at this; exact this
theorem kX {lo hi mx : Option Opd} {b : Nat × Nat × Option Nat} (h : oR fr n lo hi mx = some b) : bR fr n lo hi mx = some b := by
 cases mx with
 | some m => exact h
 | none =>
  obtain ⟨a,ha,h⟩ := aV h
  obtain ⟨c,hc,h⟩ := aV h
  obtain ⟨h1,h⟩ := eS h
  obtain ⟨h2,h⟩ := eS h
  cases h
  have e1 := yK ha
  have e2 := yK hc
  cases lo <;> cases hi <;> simp only [Option.some.injEq] at e1 e2 <;> (try subst e1) <;> (try subst e2) <;> (try simp only [bR]) <;> (try simp only [e1]) <;> (try simp only [e2]) <;> rw [if_pos ⟨qE h1,qE h2⟩]
theorem aBH (a b : Bool) : band a b = (a && b) := by cases a <;> cases b <;> rfl
theorem nbeq (a b : Nat) : Nat.beq a b = (a == b) := by
 cases h : Nat.beq a b with
 | true => rw [aL.1 h]; simp
 | false =>
  have : a ≠ b := fun e => by rw [e,Nat.beq_refl] at h; cases h
  simp [this]
theorem vX (m : Option Nat) (hh : Nat) (d : Bool) : aC7 m hh d = dU m hh d := by
 cases m with
 | none => rfl
 | some m => exact nbeq m hh
theorem vU {off : Nat} {n : Option Nat} (h : aC1 l off n = some v) : pickAgg l off n = some v := by
 cases n with
 | none => exact (oU l off).symm.trans h
 | some n =>
  rcases hJ (o := wD off l) h with ⟨_,h⟩ | ⟨d,hd,h⟩
  · exact h
  · rcases hJ (o := wC n d) h with ⟨_,h⟩ | ⟨r,hr,h⟩
    · exact h
    · rw [← h,(pO hr).2,(pP hd).2]; rfl
theorem zZ {j n : Nat} (h : ltN j n = true) : j < n := qE h
theorem aCj {u v : AV} (h : aDV u = some v) : zX u = some v := by
 rcases hJ h with ⟨_,h⟩ | ⟨p,hp,h⟩
 · exact h
 · rw [gJ hp]; exact h
theorem bandI {a b : Bool} (h : band a b = true) : a = true ∧ b = true := by rw [aBH,Bool.and_eq_true] at h; exact h
theorem aBz : ∀ l : List (AV × AV),elen l = l.length
 | [] => rfl
 | _ :: l => by show elen l + 1 = _; rw [aBz l]; rfl
theorem aCn {m u : AV} (h : aEf m = some u) : m = .nilM ∧ u = aCw 0 := by cases m <;> first | (cases h; done) | (cases h; exact ⟨rfl,rfl⟩)
theorem aC2 {o : MOp} {r : AV × XH} (h : xop o w fr x = some r) : aop w o fr x.toH = some (r.1,r.2.toH) := by
 cases o
 case mov a => cases h; simp only [aop,aY]
 case pick c a b =>
  obtain ⟨t,ht,h⟩ := aV (o := dD (oev c fr)) h
  cases h
  have := dP ht
  rw [aY] at this
  simp only [aop,this,aY]
  cases t <;> rfl
 case box a n =>
  obtain ⟨l,hl,h⟩ := aV (o := kW (oev a fr)) h
  obtain ⟨h1,h⟩ := eS h
  cases h
  have := nG hl
  rw [aY] at this
  rw [jV,aL] at h1
  simp only [aop,this,if_pos h1,dW,iA]
 case alloc z => cases h; simp only [aop,dW,iA]
 case build z ps =>
  obtain ⟨c,hc,h⟩ := aV (o := vY ps fr z) h
  cases h
  have := pL hc
  simp only [aop]
  rw [this]
 case bslice es z len ps =>
  obtain ⟨c,hc,h⟩ := aV (o := vY ps fr (vT z len)) h
  have := pL hc
  rw [pG] at this
  simp only [aop]
  rw [this]
  exact mF h
 case load a n =>
  obtain ⟨p,hp,h⟩ := aV (o := gQ (oev a fr)) h
  obtain ⟨u,hu,rfl⟩ := dY h
  have := gJ hp
  rw [aY] at this
  simp only [aop,this,aAN hu,Option.bind_some]
 case store a u n =>
  obtain ⟨p,hp,h⟩ := aV (o := gQ (oev a fr)) h
  obtain ⟨l,hl,h⟩ := aV (o := kW (oev u fr)) h
  have e1 := gJ hp
  have e2 := nG hl
  rw [aY] at e1 e2
  obtain ⟨i,o,c,rfl,hc,hb,rfl⟩ := aFq h
  simp only [aop,e1,e2,hc,if_pos hb,fZ]
 case nilck a =>
  obtain ⟨u,hu,rfl⟩ := dY h
  have := aCj hu
  rw [aY] at this
  unfold zX at this
  simp only [aop]
  split at this
  · rename_i e
    split at this <;> first | (rename_i e2; simp only [Option.some.injEq] at this; subst this; rw [e]; simp only [e2]) | cases this
  · cases this
 case bin op a b =>
  obtain ⟨u,hu,rfl⟩ := dY h
  have := aFf hu
  rw [aY,aY] at this
  simp only [aop,this,Option.bind_some]
 case eqb neq a b =>
  obtain ⟨p,hp,h⟩ := aV (o := dD (oev a fr)) h
  obtain ⟨q,hq,h⟩ := aV (o := dD (oev b fr)) h
  cases h
  have e1 := dP hp
  have e2 := dP hq
  rw [aY] at e1 e2
  simp only [aop,e1,e2,aBE,aBF]
 case eqag s neq a b =>
  obtain ⟨p,hp,h⟩ := aV (o := fY (oev a fr)) h
  obtain ⟨q,hq,h⟩ := aV (o := fY (oev b fr)) h
  obtain ⟨t,ht,rfl⟩ := uS h
  have e1 := eT hp
  have e2 := eT hq
  rw [aY] at e1 e2
  simp only [aop,e1,e2,jL ht,Option.bind_some]
 case eqnil sl neq a =>
  obtain ⟨t,ht,rfl⟩ := uS (o := aDX sl (oev a fr)) h
  rw [aY] at ht
  simp only [aop,aDW ht,Option.bind_some]
 case un op a =>
  obtain ⟨u,hu,rfl⟩ := dY h
  have := xun_eq hu
  rw [aY] at this
  simp only [aop,this,Option.bind_some]
 case conv k a =>
  obtain ⟨u,hu,rfl⟩ := dY h
  have := aDa hu
  rw [aY] at this
  unfold aBB at this
  simp only [aop]
  split at this
  · rename_i e; rw [e]; simp only [this,Option.bind_some]
  · cases this
 case mkif t a => cases h; simp only [aop,aY]
 case mkfn f a b => cases h; simp only [aop,aAn]
 case mkmap => cases h; simp only [aop,dW,iA]
 case mksl es z b len cap =>
  obtain ⟨p,hp,h⟩ := aV (o := asN (oev len fr)) h
  obtain ⟨q,hq,h⟩ := aV (o := asN (oev cap fr)) h
  obtain ⟨hc,h⟩ := eS h
  obtain ⟨h1,h2⟩ := bandI hc
  have e1 := nV hp
  have e2 := nV hq
  rw [aY] at e1 e2
  rw [pG,nbeq] at h
  simp only [aop,e1,e2]
  rw [if_pos ⟨qE h1,by rw [aDh]; exact qE h2⟩]
  exact mF h
 case slc es a lo hi mx =>
  rcases nI (v := oev a fr) h with ⟨q,n,e,f,ha,h⟩ | ⟨ha,h⟩ | h
  · obtain ⟨h1,h⟩ := eS h
    obtain ⟨b,hb,h⟩ := aV h
    cases h
    rw [aY] at ha
    simp only [aop,ha,uY h1,if_true,kX hb,Option.bind_some,mM,vX,aBH,nbeq]
    rfl
  · obtain ⟨b,hb,h⟩ := aV h
    cases h
    rw [aY] at ha
    simp only [aop,ha,kX hb,Option.bind_some]
  · cases h
 case slca n es a lo hi mx =>
  obtain ⟨p,hp,h⟩ := aV (o := gQ (oev a fr)) h
  have e1 := gJ hp
  rw [aY] at e1
  cases p with
  | old a => cases h
  | own i o =>
   obtain ⟨c,hc,h⟩ := aV (o := rS x i) h
   obtain ⟨h1,h⟩ := eS h
   obtain ⟨b,hb,h⟩ := aV h
   cases h
   rw [jV] at h1
   simp only [aop,e1,mE.1 hc]
   have h1' : o + n * es ≤ c.length := qE h1
   rw [if_pos h1']
   simp only [kX hb,Option.bind_some,vX,nbeq]
   rfl
 case addr a off =>
  obtain ⟨p,hp,h⟩ := aV (o := gQ (oev a fr)) h
  cases h
  have e1 := gJ hp
  rw [aY] at e1
  simp only [aop,e1,mM]
 case fld a off n =>
  obtain ⟨p,hp,h⟩ := aV (o := fY (oev a fr)) h
  obtain ⟨u,hu,rfl⟩ := dY h
  have e1 := eT hp
  rw [aY] at e1
  simp only [aop,e1,vU hu,Option.bind_some]
 case idxs es a i =>
  rcases nI (v := oev a fr) h with ⟨q,n,e,f,ha,h⟩ | ⟨ha,h⟩ | h
  · obtain ⟨j,hj,h⟩ := aV h
    obtain ⟨h1,h⟩ := eS h
    cases h
    obtain ⟨h1,h2⟩ := bandI h1
    have e2 := nV hj
    rw [aY] at ha e2
    simp only [aop,ha,e2,mM]
    rw [if_pos ⟨uY h1,zZ h2⟩]; rfl
  · cases h
  · cases h
 case idxa n es a i =>
  obtain ⟨p,hp,h⟩ := aV (o := gQ (oev a fr)) h
  obtain ⟨j,hj,h⟩ := aV h
  obtain ⟨h1,h⟩ := eS h
  cases h
  have e1 := gJ hp
  have e2 := nV hj
  rw [aY] at e1 e2
  simp only [aop,e1,e2,mM]
  rw [if_pos (zZ h1)]; rfl
 case idx n es agg a i =>
  obtain ⟨p,hp,h⟩ := aV (o := fY (oev a fr)) h
  obtain ⟨j,hj,h⟩ := aV h
  obtain ⟨h1,h⟩ := eS h
  obtain ⟨u,hu,rfl⟩ := dY h
  have e1 := eT hp
  have e2 := nV hj
  rw [aY] at e1 e2
  have e3 := vU hu
  simp only [aop,e1,e2]
  rw [if_pos (zZ h1)]
  cases agg with
  | true => have e4 : pickAgg p (j * es) (some es) = some u := e3
            rw [if_pos rfl,e4]; rfl
  | false => have e4 : pickAgg p (j * es) none = some u := e3
             rw [if_neg (by simp),e4]; rfl
 case look s z ok a k => exact aC4 (r := r) (by rw [← aY,← aY]; exact h)
 case mput s a k u => exact aC3 (r := r) (by rw [← aY,← aY,← aY]; exact h)
 case ext a i =>
  obtain ⟨p,hp,h⟩ := aV (o := aDj (oev a fr)) h
  obtain ⟨u,hu,rfl⟩ := dY h
  have e1 := aDi hp
  rw [aY] at e1
  rw [oU] at hu
  simp only [aop,e1,hu,Option.bind_some]
 case len a =>
  rcases nI (v := oev a fr) h with ⟨q,n,e,f,ha,h⟩ | ⟨ha,h⟩ | h
  · cases h; rw [aY] at ha; simp only [aop,ha]; rfl
  · cases h; rw [aY] at ha; simp only [aop,ha]; rfl
  · cases h
 case lenm a =>
  rcases hJ (o := wZ (oev a fr)) h with ⟨_,h⟩ | ⟨i,hi,h⟩
  · obtain ⟨u,hu,rfl⟩ := dY h
    obtain ⟨h1,rfl⟩ := aCn hu
    rw [aY] at h1
    simp only [aop,h1]; rfl
  · obtain ⟨es,hes,h⟩ := aV h
    cases h
    have := qT hi
    rw [aY] at this
    simp only [aop,this,pI.1 hes,aBz]; rfl
 case lena n => cases h; simp only [aop]; rfl
 case app es z b a y =>
  have := aFg (w := w) (x := x) (es := es) (b := b) (a := oev a fr) (y := oev y fr) (r := r) h
  rw [aY,aY] at this
  exact this
 case minmax m l =>
  have h' : @List.rec AV (fun _ => XR) none (fun v r _ => gS x (xmm m r v)) (evs l fr) = some r := h
  rw [aAn] at h'
  simp only [aop]
  cases hl : l.map (·.ev fr) with
  | nil => rw [hl] at h'; cases h'
  | cons v k =>
   rw [hl] at h'
   obtain ⟨u,hu,rfl⟩ := dY h'
   simp only [yZ hu,Option.bind_some]
 case eqni neq a =>
  obtain ⟨t,ht,rfl⟩ := uS (o := aDZ (oev a fr)) h
  rw [aY] at ht
  simp only [aop,aDY ht,Option.bind_some]
 case tass t z ok a =>
  obtain ⟨u,hu,rfl⟩ := dY h
  rw [aY] at hu
  simp only [aop,hu,Option.bind_some]
 case copy es a b => cases h
 case panic a => cases h
 case defer f as => cases h
 case recov => cases h
end
noncomputable section
def XEv.ev (X : XEv) : Ev := ⟨X.w0,fun f => tget X.tab (f + 1),fun f as h => (X.orc f as).map fun v => (v,h),X.prm,fun _ _ _ _ => none,fun _ => none,false⟩
end
def nX (c : iL) (c' : AV → List AV → aA → Option (AV × aA)) : Prop := ∀ fv as x r,c fv as x = some r → c' fv as x.toH = some (r.1,r.2.toH)
section
variable {w : World} {c : iL} {c' : AV → List AV → aA → Option (AV × aA)} {fr : Fr} {x : XH}
theorem aFn {v : AV} (h : tupE v = true) : v = .tup [] := by
 cases v with
 | tup l => cases l with
  | nil => rfl
  | cons => cases h
 | _ => cases h
theorem tV (d : Option Nat) (v : AV) (fr : Fr) : xput d v fr = fr.put d v := by cases d <;> rfl
theorem gK_eq {g : Option (Nat × Bool)} {yes no : Fr → XO} {p : Fr × XH} (h : gK g fr yes no = some p) :
 (∃ fr1,gO g fr = some (true,fr1) ∧ yes fr1 = some p) ∨ ∃ fr1,gO g fr = some (false,fr1) ∧ no fr1 = some p := by
 cases g with
 | none => exact .inl ⟨fr,rfl,h⟩
 | some q =>
  rcases hJ (o := dD (lV fr q.1)) h with ⟨_,h⟩ | ⟨t,ht,h⟩
  · obtain ⟨h1,h⟩ := eS h
    have := aFn h1
    rw [fG] at this
    exact .inr ⟨fr,by simp only [gO,this],h⟩
  · have e := dP ht
    rw [fG] at e
    rw [nU,aBF] at h
    by_cases hb : (t == q.2) = true
    · rw [if_pos hb] at h
      exact .inl ⟨_,by simp only [gO,e,hb],h⟩
    · rw [if_neg hb] at h
      exact .inr ⟨_,by simp only [gO,e,Bool.eq_false_iff.2 hb],h⟩
theorem aAW {d : Option Nat} {o : XR} {p : Fr × XH} (h : setR d fr o = some p) : ∃ v y,o = some (v,y) ∧ p = (fr.put d v,y) := by
 obtain ⟨q,hq,h⟩ := aV h
 cases h
 exact ⟨_,_,hq,by rw [tV]⟩
theorem xI_eq (hc : nX c c') {i : MIx} {p : Fr × XH} (h : xI i w c fr x = some p) : evI w c' fr x.toH i = some (p.1,p.2.toH) := by
 cases i with
 | op d g o =>
  rcases gK_eq (g := g) h with ⟨fr1,hg,h⟩ | ⟨fr1,hg,h⟩
  · obtain ⟨v,y,hv,rfl⟩ := aAW h
    simp only [evI,hg,aC2 hv]
  · cases h
    simp only [evI,hg,tV]
 | call d g f as =>
  rcases gK_eq (g := g) h with ⟨fr1,hg,h⟩ | ⟨fr1,hg,h⟩
  · obtain ⟨v,y,hv,rfl⟩ := aAW h
    have := hc _ _ _ _ hv
    rw [aY,aAn] at this
    simp only [evI,hg]
    rw [this]
  · cases h
    simp only [evI,hg,tV]
theorem aDb (hc : nX c c') : ∀ {l : List MIx} {fr : Fr} {x : XH} {p : Fr × XH},xO l w c fr x = some p → evO w c' l fr x.toH = some (p.1,p.2.toH)
 | [],fr,x,p,h => by cases h; rfl
 | i :: l,fr,x,p,h => by
  obtain ⟨q,hq,h⟩ := aV (o := xI i w c fr x) h
  simp only [evO,xI_eq hc hq]
  exact aDb hc (l := l) h
theorem xA_eq {lp : List MIx} : ∀ {us : List Nat},xA w lp fr x us = true → evA w lp fr x.toH us = true
 | [],_ => rfl
 | u :: us,h => by
  simp only [xA,Bool.and_eq_true] at h
  simp only [evA,Bool.and_eq_true]
  refine ⟨?_,xA_eq h.2⟩
  have h := h.1
  split at h
  · rename_i t g o hu
    rw [hu]
    simp only
    split at h
    · rename_i hw
      rw [hw]
      simp only
      split at h
      · rename_i p hp
        rw [aC2 hp]
        rw [fG] at h
        exact h
      · cases h
    · rename_i hw
      rw [hw]
      rw [fG] at h
      exact h
    · cases h
  · cases h
theorem xW_eq (hc : nX c c') {lp : List MIx} {R : List (List Nat)} : ∀ {is : List Nat} {fr : Fr} {x : XH} {p : Fr × XH},xW w c lp R is fr x = some p → evW w c' lp R is fr x.toH = some (p.1,p.2.toH)
 | [],fr,x,p,h => by cases h; rfl
 | i :: is,fr,x,p,h => by
  simp only [xW] at h
  split at h
  · rename_i y hy
    split at h
    · rename_i q hq
      split at h
      · rename_i hA
        simp only [evW,hy,xI_eq hc hq,xA_eq hA]
        exact xW_eq hc h
      · cases h
    · cases h
  · cases h
noncomputable def lL (p : Exit × Fr × XH) : Exit × Fr × aA := (p.1,p.2.1,p.2.2.toH)
theorem pH {o : XO} {p : Exit × Fr × XH} (h : aAO o = some p) : ∃ q,o = some q ∧ p = (.normal,q) := by
 obtain ⟨q,hq,h⟩ := aV h
 cases h
 exact ⟨q,hq,rfl⟩
theorem xD_eq (hc : nX c c') {l : List MIx} {bef : List (List Nat)} {π : List Nat} {R : List (List Nat)} {p : Exit × Fr × XH} (h : xD w c l bef π R fr x = some p) : evD w c' l bef π R fr x.toH = some (lL p) := by
 simp only [xD] at h
 split at h
 · rename_i lp hlp
   split at h
   · rename_i hb
     obtain ⟨q,hq,rfl⟩ := pH h
     unfold xDok at hb
     simp only [evD,hlp,hb,xW_eq hc hq]
     rfl
   · cases h
 · cases h
theorem aCz (v : AV) (k : AV → Fr) : aAj v k = k v := by cases v <;> rfl
theorem zA : ∀ (l : List Nat) (fr : Fr),xkp l fr = gF fr l
 | [],_ => rfl
 | t :: l,fr => by
  show aAj (lV fr t) (fun v => (t,v) :: xkp l fr) = _
  rw [aCz,fG,zA l fr]; rfl
theorem aEt {e : Exit} {p k : dM} {r : Exit × Fr × XH} (h : exK e p k = some r) : (e = .normal ∧ k = some r) ∨ (e ≠ .normal ∧ p = some r) := by
 cases e <;> first | exact .inl ⟨rfl,h⟩ | exact .inr ⟨by simp,h⟩
theorem aDc {body : Fr → XH → dM} {body' : Fr → aA → Out} {keep : List Nat} (hb : ∀ fr x p,body fr x = some p → body' fr x.toH = some (lL p)) : ∀ {n : Nat} {fr : Fr} {x : XH} {p : Exit × Fr × XH},xLp body keep n fr x = some p → evL body' keep n fr x.toH = some (lL p)
 | 0,_,_,_,h => by cases h
 | n + 1,fr,x,p,h => by
  obtain ⟨⟨e,fr1,y⟩,hq,h⟩ := aV (o := body fr x) h
  have h1 := hb _ _ _ hq
  rcases aEt h with ⟨rfl,h⟩ | ⟨hne,h⟩
  · simp only [evL,h1,lL]
    rw [zA] at h
    exact aDc hb h
  · cases h
    simp only [evL,h1,lL]
    cases e <;> first | exact absurd rfl hne | rfl
theorem aFb {r : Option Nat} (h : xrOk r x = true) : rOk r x.toH = true := by
 cases r with
 | none => rfl
 | some i =>
  simp only [xrOk] at h
  split at h
  · rename_i hx
    simp only [rOk,lZ.1 hx]
  · cases h
theorem aG0 {v : AV} (h : isFn v = true) : ∃ f a b,v = .fn (.func f) a b := by
 unfold isFn at h
 split at h
 · exact ⟨_,_,_,rfl⟩
 · cases h
theorem pJ {o : Option Code} {p : Exit × Fr × XH} (h : aC5 fr x o = some p) : aBk fr x.toH o = some (lL p) := by
 unfold aC5 at h
 split at h <;> first | (cases h; done) | (cases h; rfl)
theorem aFe {id : Nat} {o : dM} {o' : Out} {p : Exit × Fr × XH} (h : xblk id o = some p) : (∀ p,o = some p → o' = some (lL p)) →
 (match o' with
 | some (.exit i,fr,h) => match Nat.beq i id with
  | true => some (.normal,fr,h)
  | false => some (.exit i,fr,h)
 | x => x) = some (lL p) := fun ho => by
 unfold xblk at h
 split at h
 · rename_i i fr1 y
   rw [ho _ rfl]
   simp only [lL]
   split at h
   · rename_i hb; cases h; first | rfl | rw [hb]
   · rename_i hb; cases h; first | rfl | rw [hb]
 · rename_i hne
   rw [ho _ h]
   obtain ⟨e,fr1,y⟩ := p
   cases e <;> first | rfl | exact absurd h (hne _ _ _)
theorem aB2 {o : dM} {o' : Out} {p : Exit × Fr × XH} (h : yX o = some p) : (∀ p,o = some p → o' = some (lL p)) →
 (match o' with
 | some (.goto _,_,_) => none
 | x => x) = some (lL p) := fun ho => by
 unfold yX at h
 split at h
 · cases h
 · rename_i hne
   rw [ho _ h]
   obtain ⟨e,fr1,y⟩ := p
   cases e <;> first | rfl | exact absurd h (hne _ _ _)
theorem jE {C : yR} : ∀ (s : SC) {k : XC} (_ : ∀ E,nX (k.call E) (C E)) {fr : Fr} {x : XH} {p : Exit × Fr × XH},xS s k fr x = some p → evS k.X.ev C k.fuel k.r k.nt k.E s fr x.toH = some (lL p)
 | .skip,_,_,_,_,_,h => by cases h; rfl
 | .ret,_,_,_,_,_,h => by cases h; rfl
 | .exit _,_,_,_,_,_,h => by cases h; rfl
 | .lab _,_,_,_,_,_,h => by cases h; rfl
 | .regC _ _ _ _ _,_,_,_,_,_,h => by cases h
 | .regP _ _ _ _,_,_,_,_,_,h => by cases h
 | .drawE _ _ _ _ _,_,_,_,_,_,h => by cases h
 | .reg l,k,hc,fr,x,p,h => by
  obtain ⟨q,hq,rfl⟩ := pH (o := xO l k.X.w0 (k.call k.E) fr x) h
  simp only [evS]
  have := aDb (hc k.E) hq
  show qS (evO k.X.w0 (C k.E) l fr x.toH) = _
  rw [this]; rfl
 | .draw (a :: b) l bef,k,hc,fr,x,p,h => by
  obtain ⟨q,hq,rfl⟩ := pH (o := xO l k.X.w0 (k.call k.E) fr x) h
  simp only [evS]
  have := aDb (hc k.E) hq
  show qS (evO k.X.w0 (C k.E) l fr x.toH) = _
  rw [this]; rfl
 | .draw [] l bef,k,hc,fr,x,p,h => by
  have h : aC9 l bef k fr x = some p := h
  unfold aC9 at h
  split at h
  · rename_i q hq
    simp only [evS]
    show (match k.X.prm l with
     | some p => evD k.X.w0 (C k.E) l bef p.1 p.2 fr x.toH
     | none => none) = _
    rw [hq]
    exact xD_eq (hc k.E) h
  · cases h
 | .seq a b,k,hc,fr,x,p,h => by
  obtain ⟨⟨e,fr1,y⟩,hq,h⟩ := aV (o := xS a k fr x) h
  have h1 := jE a hc hq
  simp only [evS]
  rcases aEt h with ⟨rfl,h⟩ | ⟨hne,h⟩
  · rw [h1]
    exact jE b hc h
  · cases h
    rw [h1]
    cases e <;> first | exact absurd rfl hne | rfl
 | .cond (.t t) a b,k,hc,fr,x,p,h => by
  obtain ⟨q,hq,h⟩ := aV (o := dD (lV fr t)) h
  have e := dP hq
  rw [fG] at e
  simp only [evS,e]
  cases q with
  | true => exact jE a hc h
  | false => exact jE b hc h
 | .cond (.k v) a b,k,hc,fr,x,p,h => by
  obtain ⟨q,hq,h⟩ := aV (o := dD v) h
  have e := dP hq
  subst e
  simp only [evS]
  cases q with
  | true => exact jE a hc h
  | false => exact jE b hc h
 | .blk id a,k,hc,fr,x,p,h => by
  simp only [evS]
  exact aFe (o := xS a k fr x) h (fun p => jE a hc)
 | .loop keep a,k,hc,fr,x,p,h => by
  simp only [evS]
  have h : xLp (xS a k) keep k.fuel (xkp keep fr) x = some p := h
  rw [zA] at h
  exact aDc (body := xS a k) (fun fr x p => jE a hc) h
 | .scope a,k,hc,fr,x,p,h => by
  simp only [evS]
  exact aB2 (o := xS a k fr x) h (fun p => jE a hc)
 | .rng f ps ca cb ma mb,k,hc,fr,x,p,h => by
  have h : xrng f ps ca cb ma mb k fr x = some p := h
  unfold xrng at h
  split at h
  · rename_i hb
    rw [Bool.and_eq_true] at hb
    obtain ⟨fid,first,capt,ef⟩ := aG0 hb.2
    rw [ef] at h
    rw [aY] at ef
    simp only [evS,aFb hb.1,ef]
    split at h
    · rename_i q hq
      have h1 := hc _ _ _ _ _ hq
      rw [iA] at h1
      rw [dW,h1]
      simp only
      split at h
      · rename_i n0 f0 p0 a0 b0 st pd hst
        rw [lZ.1 hst]
        cases st with
        | busy => cases h
        | ready => have := pJ h; rw [fZ] at this; exact this
        | done => have := pJ h; rw [fZ] at this; exact this
        | exhausted => have := pJ h; rw [fZ] at this; exact this
      · cases h
    · cases h
  · cases h
theorem aB3 {rec_ : LoopState → Option Code → Blk} {i : Nat} {e : Exit} {r : AV × XH} (h : yY rec_ i x e = some r) : pY rec_ i x.toH e = some (r.1,r.2.toH) := by
 unfold yY at h
 split at h <;> first | (cases h; done) | (cases h; simp only [pY,fZ])
theorem aCZ {r : RV} {v : AV} (h : aC0 r w fr x = some v) : jI w fr x.toH r = some v := by
 cases r with
 | t n => cases h; simp only [jI,fG]
 | c n g =>
  obtain ⟨p,hp,h⟩ := aV (o := gQ (lV fr n)) h
  have e := gJ hp
  rw [fG] at e
  simp only [jI,e]
  exact aAN h
theorem vS : ∀ {l : List RV} {k : List AV},xresL l w fr x = some k → l.mapM (jI w fr x.toH) = some k
 | [],k,h => by cases h; rfl
 | r :: l,k,h => by
  obtain ⟨v,hv,h⟩ := aV (o := aC0 r w fr x) h
  obtain ⟨t,ht,rfl⟩ := mW h
  rw [List.mapM_cons,aCZ hv]
  simp only [Option.bind_eq_bind,Option.bind_some,vS ht,Option.pure_def]
theorem aFm (l : List AV) : tupL l = match l with
 | [v] => v
 | l => .tup l := by
 cases l with
 | nil => rfl
 | cons a l => cases l <;> rfl
theorem aFa {rs : List RV} {n : Nat} {o : dM} {o' : Out} (ho : ∀ p,o = some p → o' = some (lL p)) {r : AV × XH} (h : xret w rs o = some r) : retO w false rs n o' = some (r.1,r.2.toH) := by
 obtain ⟨⟨e,fr1,y⟩,hq,h⟩ := aV h
 rw [ho _ hq]
 have h1 : ∀ {r : AV × XH},xres rs w fr1 y = some r → (match fL w rs fr1 y.toH with
  | some v => some (v,y.toH)
  | none => none) = some (r.1,r.2.toH) := fun {r} h => by
  obtain ⟨l,hl,h⟩ := aV h
  cases h
  simp only [fL,vS hl,Option.map_some,aFm]
  rfl
 cases e <;> first | (cases h; done) | exact h1 h
theorem vW : ∀ (l : List AV) (n : Nat),aC6 l n = cR l n
 | [],_ => rfl
 | v :: l,n => by show (n,v) :: aC6 l (n + 1) = _; rw [vW l]; rfl
theorem xC_eq (X : XEv) : ∀ (n : Nat) (E : LE),nX (xC X n E) (evC X.ev n E)
 | 0,E => fun fv as x r h => by cases h
 | n + 1,E => fun fv as x r h => by
  have ih := xC_eq X n
  cases fv with
  | fn g first capt => cases g with
   | func f =>
    have h : callF X n (xC X n) E f (rT (rT first as) capt) x = some r := h
    rw [jW,jW] at h
    simp only [evC]
    rcases hJ (o := X.orc f (first ++ as ++ capt)) h with ⟨ho,h⟩ | ⟨v,hv,h⟩
    · have e1 : X.ev.orc f (first ++ as ++ capt) x.toH = none := by show (X.orc f _).map _ = none; rw [ho]; rfl
      rw [e1]
      simp only
      obtain ⟨mf,hmf,h⟩ := aV h
      have e2 : X.ev.tab f = some mf := hmf
      rw [e2]
      simp only
      obtain ⟨h1,h⟩ := eS h
      rw [jV] at h1
      rw [h1]
      rw [vW] at h
      exact aFa (fun p hp => jE mf.body (C := evC X.ev n) ih hp) h
    · have e1 : X.ev.orc f (first ++ as ++ capt) x.toH = some (v,x.toH) := by show (X.orc f _).map _ = _; rw [hv]; rfl
      rw [e1]
      cases h; rfl
   | _ => cases h
  | yld i =>
   have h : yW X n (xC X n) E i as x = some r := h
   unfold yW at h
   simp only [evC]
   split at h
   · rename_i nt fr0 ps ca cb p hi hl
     rw [lZ.1 hi,hl]
     simp only
     split at h
     · rename_i hlen
       rw [hlen]
       simp only
       split at h
       · rename_i fr1 h1 hx
         have e1 := jE p.1 (C := evC X.ev n) (k := ⟨X,xC X n,n,some i,nt,E⟩) ih hx
         rw [e1]
         simp only [lL]
         split at h
         · rename_i n1 f1 p1 a1 b1 hi1
           rw [lZ.1 hi1]
           simp only
           split at h
           · rename_i e fr2 h2 hy
             have e2 := jE p.2 (C := evC X.ev n) (k := ⟨X,xC X n,n,some i,nt,E⟩) ih hy
             simp only [fZ] at e2
             rw [e2]
             simp only [lL]
             split at h
             · rename_i hi2
               rw [lZ.1 hi2]
               simp only
               exact aB3 h
             · cases h
           · cases h
         · cases h
       · cases h
     · cases h
   · cases h
  | _ => cases h
end
noncomputable section
def aGZ (o : XR) : Bool := @Option.rec (AV × XH) (fun _ => Bool) false (fun p => @Option.rec Bool (fun _ => Bool) false (fun b => b) (dD p.1)) o
theorem xG {P : Program} {X : XEv} {h : aA} (ok : vP P X.ev) {n f : Nat} (e : aGZ (xC X n [] (.fn (.func f) [] []) [] ⟨0,.e⟩) = true) : bQ P X.w0 f [] h (.bool true) h := by
 refine aAb ok (n := n) (f := f) ?_
 cases hx : xC X n [] (.fn (.func f) [] []) [] ⟨0,.e⟩ with
 | none => rw [hx] at e; cases e
 | some p =>
  rw [hx] at e
  have h1 := xC_eq X n [] _ _ _ _ hx
  have h0 : XH.toH ⟨0,.e⟩ = [] := rfl
  rw [h0] at h1
  rw [h1]
  have e : @Option.rec Bool (fun _ => Bool) false (fun b => b) (dD p.1) = true := e
  cases hb : dD p.1 with
  | none => rw [hb] at e; cases e
  | some b =>
   rw [hb] at e
   have e : b = true := e
   subst e
   rw [dP hb]; rfl
end
def sC (Q : Nat → SF → Prop) : XT SF → (Nat → Nat) → Prop
 | .e,_ => True
 | .n v l r,φ => (∀ mf,v = some mf → Q (φ 1) mf) ∧ sC Q l (fun j => φ (2 * j)) ∧ sC Q r (fun j => φ (2 * j + 1))
theorem pR {Q : Nat → SF → Prop} : ∀ {t : XT SF} {φ : Nat → Nat} {j : Nat} {mf : SF},1 ≤ j → sC Q t φ → tget t j = some mf → Q (φ j) mf
 | .e,_,_,_,_,_,h => by cases h
 | .n v l r,φ,j,mf,hj,⟨a1,a2,a3⟩,h => by
  have h : @Bool.rec (fun _ => Option SF) (@Bool.rec (fun _ => Option SF) (tget r (j / 2)) (tget l (j / 2)) (Nat.beq (j % 2) 0)) v (Nat.beq j 1) = some mf := h
  simp only [nU,aL] at h
  by_cases e1 : j = 1
  · rw [if_pos e1] at h
    rw [e1]; exact a1 mf h
  · rw [if_neg e1] at h
    by_cases e2 : j % 2 = 0
    · rw [if_pos e2] at h
      have := pR (j := j / 2) (by omega) a2 h
      rwa [show 2 * (j / 2) = j by omega] at this
    · rw [if_neg e2] at h
      have := pR (j := j / 2) (by omega) a3 h
      rwa [show 2 * (j / 2) + 1 = j by omega] at this
def QF (P : Program) (j : Nat) (mf : SF) : Prop := aR P (j - 1) = some mf.er ∧ aD P (j - 1) = true ∧ mf.body.good = true
theorem aU {P : Program} {φ : Nat → Nat} {mf : SF} {l r : XT SF} (h : QF P (φ 1) mf) (hl : sC (QF P) l (fun j => φ (2 * j))) (hr : sC (QF P) r (fun j => φ (2 * j + 1))) : sC (QF P) (.n (some mf) l r) φ := ⟨fun m e => by cases e; exact h,hl,hr⟩
theorem cO {P : Program} {φ : Nat → Nat} {l r : XT SF} (hl : sC (QF P) l (fun j => φ (2 * j))) (hr : sC (QF P) r (fun j => φ (2 * j + 1))) : sC (QF P) (.n none l r) φ := ⟨fun m e => (by cases e),hl,hr⟩
theorem evOkX {P : Program} {X : XEv} (hm : P.follows .mixedOrders = true) (ht : sC (QF P) X.tab id) (ho : ∀ f as v,X.orc f as = some v → ∀ h,bQ P X.w0 f as h v h) : vP P X.ev where
 hm := hm
 tab := fun f mf e => by
  have := pR (j := f + 1) (by omega) ht e
  simp only [id,QF,Nat.add_sub_cancel] at this
  exact this
 orc := fun f as h v h' e => by
  have e : (X.orc f as).map (fun v => (v,h)) = some (v,h') := e
  cases hx : X.orc f as with
  | none => rw [hx] at e; cases e
  | some u =>
   rw [hx] at e
   cases e
   exact ⟨ho f as _ hx h,LS.refl⟩
 reg := fun l bef fr h p e => by cases e
end Go.Proofs.Ab

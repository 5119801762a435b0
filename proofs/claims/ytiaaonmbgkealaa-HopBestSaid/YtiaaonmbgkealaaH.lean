/- The own layer under the proofs of this seat, part H: what calls of the program come to on an abstract heap. No condition. -/
import Derived.Test.YtiaaonmbgkealaaG
import Derived.Test.YtiaaonmbgkealaaTab
set_option linter.unusedSimpArgs false
set_option linter.unusedVariables false
namespace Go.Proofs.Ab
open Go Go.Proofs
variable {w0 : World} {h : Heap}
theorem fH (rows : List (List AV)) {es : Nat} (full : Bool) {L : Heap} (k : Nat) (hk : L[k]? = some (some (.row rows.flatten))) (hr : ∀ c ∈ rows,c.length = es) : Sl w0 (h ++ L) es (.sl (.own (h.length + k) 0) rows.length es full) rows := by
 have hkl : k < L.length := by
  rcases Nat.lt_or_ge k L.length with a | a
  · exact a
  · rw [List.getElem?_eq_none a] at hk; cases hk
 refine .inr ⟨_,full,⟨es,rfl,nA⟩,by simp [Pl.bdd]; exact hkl,fun j c hc => ?_⟩
 simp only [Pl.add,rdn]
 rw [qI (by omega),Nat.add_sub_cancel_left,hk]
 simp only [Nat.zero_add]
 have hlen : ∀ (rows : List (List AV)),(∀ c ∈ rows,c.length = es) → rows.flatten.length = rows.length * es := fun rows => by
  induction rows with
  | nil => intro _; simp
  | cons x xs ih => intro hx; simp [ih (fun c hc => hx c (by simp [hc])),hx x (by simp),Nat.add_mul]; omega
 have hjl := aP hc
 have key : ∀ (rows : List (List AV)) (j : Nat) c,(∀ c ∈ rows,c.length = es) → rows[j]? = some c → (rows.flatten.drop (j * es)).take es = c := fun rows => by
  induction rows with
  | nil => intro j c _ hc; simp at hc
  | cons x xs ih =>
   intro j c hx hc
   have hxl := hx x (by simp)
   cases j with
   | zero => simp at hc; subst hc; simp [← hxl]
   | succ j =>
    have := ih j c (fun c hc => hx c (by simp [hc])) (by simpa using hc)
    rw [List.flatten_cons,Nat.succ_mul,Nat.add_comm,← hxl,← List.drop_drop,List.drop_left,hxl]; exact this
 rw [if_pos (by rw [hlen rows hr]; calc j * es + es = (j + 1) * es := by rw [Nat.add_mul]; omega
                                        _ ≤ rows.length * es := Nat.mul_le_mul_right _ hjl),key rows j c hr hc]
theorem aN {α : Type} {l : List α} {i : Nat} {x : α} (e : l[i]? = some x) : i < l.length := (List.getElem?_eq_some_iff.1 e).1
theorem Sl.lt {es : Nat} {v : AV} {rows : List (List AV)} (s : Sl w0 h es v rows) {j : Nat} (hj : j < rows.length) : ∃ p : Pl,bT es v (some j) = some (.ptr p) ∧ ∀ L c,rows[j]? = some c → rdn w0 (h ++ L) p es = some c := by
 obtain ⟨_,p,h1,h2,_⟩ := s.use
 exact ⟨_,h1 j hj,fun L c hc => dJ (h2 j c hc)⟩
def SlI (w0 : World) (h : Heap) (v : AV) (l : List Int) : Prop := Sl w0 h 1 v (l.map fun z => [.int .i64 z])
theorem SlI.use {v : AV} {l : List Int} (s : SlI w0 h v l) : fN v = some (.int .i64 l.length) ∧ ∃ q : Pl,(∀ j,j < l.length → bT 1 v (some j) = some (.ptr (q.add j))) ∧ ∀ j (hj : j < l.length) L,rd w0 (h ++ L) (q.add j) = some (.int .i64 l[j]) := by
 obtain ⟨ln,q,ix,row,_⟩ := Sl.use s
 simp only [List.length_map,Nat.mul_one] at ln ix row
 refine ⟨ln,q,ix,fun j hj L => ?_⟩
 have := cC (row j [.int .i64 l[j]] (by simp [hj])) (o := 0) (x := .int .i64 l[j]) rfl
 rw [show (q.add j).add 0 = q.add j by rw [Pl.add_add]; rfl] at this
 exact lV this
theorem mN {H : Heap} {es b n io k : Nat} {ov : AV} {vs x : List AV} {f : Bool} (hov : n = 0 ∧ ov = .nilS ∧ vs = [] ∨ n ≠ 0 ∧ ov = .sl (.own io 0) n es false ∧ H[io]? = some (some (.row vs)) ∧ vs.length = n * es)
 (hk : H[k]? = some (some (.row x))) (hx : x.length = es) (ho : x.all one = true) (hb : b ≤ 1000000) (hn : n ≤ 1000000) :
 ∃ G,dH w0 H es b ov (.sl (.own k 0) 1 es f) = some (.sl (.own H.length 0) (n + 1) es false,G) ∧ G.length = H.length + 1 ∧ G[H.length]? = some (some (.row (vs ++ x))) ∧ ∀ (i : Nat) c,(n ≠ 0 → i ≠ io) → H[i]? = some (some c) → G[i]? = some (some c) := by
 have r1 : rdn w0 H (.own k 0) (1 * es) = some x := by
  simp only [rdn,hk]; simp [hx]; rw [← hx]; simp
 rcases hov with ⟨h1,h2,h3⟩ | ⟨h1,h2,h3,h4⟩
 · subst h1; subst h2; subst h3
   refine ⟨H ++ [some (.row x)],?_,by simp,by simp,fun i c _ e => aA e⟩
   simp only [dH,srcOf,nA,if_true,r1,Option.map_some,Option.bind_some]
   rw [if_neg (by omega),if_pos ⟨by omega,ho⟩]
   simp [lA]
 · have hlt := aN h3
   have r2 : rdn w0 H (.own io 0) (n * es) = some vs := by
    simp only [rdn,h3]; simp [h4]; rw [← h4]; simp
   have hsz : (n + 1) * (b + 1) ≤ 2 ^ 40 := Nat.le_trans (Nat.mul_le_mul (show n + 1 ≤ 1000001 by omega) (show b + 1 ≤ 1000001 by omega)) (by decide)
   refine ⟨H.set io none ++ [some (.row (vs ++ x))],?_,by simp,by simp,fun i c hi e => ?_⟩
   · rw [h2]
     simp only [dH,srcOf,nA,if_true,r1,Option.map_some,Option.bind_some]
     rw [if_neg (by omega),if_pos ⟨trivial,hsz,ho⟩]
     simp only [Bool.false_eq_true,if_false,r2,Option.bind_some]
   · refine aA ?_
     rw [qB fun e2 => hi h1 e2.symm]; exact e
structure Gro (h H : Heap) (es n : Nat) (ov : AV) (vs : List AV) : Prop where
 sub : aB h H
 own : n = 0 ∧ ov = .nilS ∧ vs = [] ∨ ∃ io,h.length ≤ io ∧ n ≠ 0 ∧ ov = .sl (.own io 0) n es false ∧ H[io]? = some (some (.row vs)) ∧ vs.length = n * es
theorem Gro.nil {H : Heap} {es : Nat} (s : aB h H) : Gro h H es 0 .nilS [] := ⟨s,.inl ⟨rfl,rfl,rfl⟩⟩
theorem Gro.app {H L : Heap} {es n : Nat} {ov : AV} {vs : List AV} (g : Gro h H es n ov vs) : Gro h (H ++ L) es n ov vs := by
 refine ⟨g.sub.app,?_⟩
 rcases g.own with h1 | ⟨io,h1,h2,h3,h4,h5⟩
 · exact .inl h1
 · exact .inr ⟨io,h1,h2,h3,aA h4,h5⟩
theorem Gro.more {H : Heap} {es b n k : Nat} {ov : AV} {vs x : List AV} {f : Bool} (g : Gro h H es n ov vs) (hk : H[k]? = some (some (.row x))) (hx : x.length = es) (ho : x.all one = true) (hb : b ≤ 1000000) (hn : n ≤ 1000000) :
 ∃ G,dH w0 H es b ov (.sl (.own k 0) 1 es f) = some (.sl (.own H.length 0) (n + 1) es false,G) ∧ Gro h G es (n + 1) (.sl (.own H.length 0) (n + 1) es false) (vs ++ x) := by
 have hlen : vs.length = n * es := by
  rcases g.own with ⟨h1,_,h3⟩ | ⟨_,_,_,_,_,h5⟩
  · subst h1; subst h3; simp
  · exact h5
 have hov : ∃ io,(n ≠ 0 → h.length ≤ io) ∧ (n = 0 ∧ ov = .nilS ∧ vs = [] ∨ n ≠ 0 ∧ ov = .sl (.own io 0) n es false ∧ H[io]? = some (some (.row vs)) ∧ vs.length = n * es) := by
  rcases g.own with h1 | ⟨io,h1,h2,h3,h4,h5⟩
  · exact ⟨0,fun h => absurd h1.1 h,.inl h1⟩
  · exact ⟨io,fun _ => h1,.inr ⟨h2,h3,h4,h5⟩⟩
 obtain ⟨io,hio,hov⟩ := hov
 obtain ⟨G,e1,e2,e3,e4⟩ := mN (w0 := w0) (b := b) (f := f) hov hk hx ho hb hn
 have hs := g.sub
 refine ⟨G,e1,⟨⟨by have := hs.1; omega,fun i c e => e4 i c (fun h0 => by have := hio h0; have := aN e; omega) (hs.2 i c e)⟩,.inr ⟨H.length,hs.1,by omega,rfl,e3,by rw [List.length_append,hlen,hx,Nat.succ_mul]⟩⟩⟩
theorem Gro.sl {H : Heap} {es n : Nat} {ov : AV} {rows : List (List AV)} (g : Gro h H es n ov rows.flatten) (hr : ∀ c ∈ rows,c.length = es) (hn : n = rows.length) (hes : es ≠ 0) : Sl w0 H es ov rows := by
 rcases g.own with ⟨h1,h2,h3⟩ | ⟨io,h1,h2,h3,h4,h5⟩
 · refine .inl ⟨h2,?_⟩
   rw [hn] at h1; exact List.eq_nil_of_length_eq_zero h1
 · subst h3
   have hlt := aN h4
   have e : H = H.take io ++ H.drop io := (List.take_append_drop io H).symm
   have hl : (H.take io).length = io := by rw [List.length_take]; omega
   have := fH (w0 := w0) (h := H.take io) rows (es := es) false (L := H.drop io) 0 (by rw [List.getElem?_drop,Nat.add_zero]; exact h4) hr
   rw [← e,hl,Nat.add_zero,← hn] at this
   exact this
theorem dL (l : List Int) : aS l = (l.map fun z => [AV.int .i64 z]).flatten := by
 induction l with
 | nil => rfl
 | cons a l ih => simp [aS] at ih ⊢; exact ih
theorem Gro.sli {H : Heap} {n : Nat} {ov : AV} {l : List Int} (g : Gro h H 1 n ov (aS l)) (hn : n = l.length) : SlI w0 H ov l := by
 rw [dL] at g
 exact g.sl (by simp) (by simpa using hn) (by omega)
theorem aBh {H : Heap} {es b : Nat} {rows : List (List AV)} {y : AV} (s : Sl w0 H es y rows) (hr : rows ≠ []) (ho : ∀ c ∈ rows,c.all one = true) (hb : b ≤ 1000000) (hn2 : rows.length ≤ 1000000) :
 dH w0 H es b .nilS y = some (.sl (.own H.length 0) rows.length es false,H ++ [some (.row rows.flatten)]) := by
 rcases s with ⟨s1,s2⟩ | ⟨q,full,s1,s2,s3⟩
 · exact absurd s2 hr
 · obtain ⟨es',rfl,he⟩ := s1
   have hr2 := Sl.all hr s3
   have hne : rows.length ≠ 0 := fun e => hr (List.eq_nil_of_length_eq_zero e)
   have hsz : rows.length * (b + 1) ≤ 2 ^ 40 := Nat.le_trans (Nat.mul_le_mul hn2 (show b + 1 ≤ 1000001 by omega)) (by decide)
   have ho2 : rows.flatten.all one = true := by
    rw [List.all_eq_true]; intro x hx
    obtain ⟨c,hc,hx⟩ := List.mem_flatten.1 hx
    exact List.all_eq_true.1 (ho c hc) x hx
   simp only [dH,srcOf,he,if_true,hr2,Option.map_some,Option.bind_some]
   rw [if_neg hne,if_pos ⟨hsz,ho2⟩]
   simp [lA]
theorem gZ {a : Nat} (ha : a < 2 ^ 62) : bin .and (.int .i64 (a : Int)) (.int .i64 1) = some (.int .i64 ((a % 2 : Nat) : Int)) := by
 simp only [bin,if_true,jV,mL]
 rw [show (BitVec.ofInt IntKind.i64.bits (a : Int) &&& BitVec.ofInt IntKind.i64.bits (1 : Int)).toNat = a % 2 by
  rw [show (1 : Int) = ((1 : Nat) : Int) from rfl,BitVec.toNat_and,BitVec.ofInt_natCast,BitVec.ofInt_natCast,BitVec.toNat_ofNat,BitVec.toNat_ofNat,Nat.mod_eq_of_lt (a := a),Nat.mod_eq_of_lt (a := 1)]
  · exact Nat.and_one_is_mod a
  · simp [IntKind.bits]
  · simp [IntKind.bits]; omega]
 rw [qU (by omega)]
def Gr2 (H : Heap) (es n io : Nat) (ov : AV) (vs : List AV) : Prop := n = 0 ∧ ov = .nilS ∧ vs = [] ∨ n ≠ 0 ∧ ov = .sl (.own io 0) n es false ∧ H[io]? = some (some (.row vs)) ∧ vs.length = n * es
theorem Gr2.sub {G H : Heap} {es n io : Nat} {ov : AV} {vs : List AV} (g : Gr2 G es n io ov vs) (s : aB G H) : Gr2 H es n io ov vs := by
 rcases g with h1 | ⟨h1,h2,h3,h4⟩
 · exact .inl h1
 · exact .inr ⟨h1,h2,s.2 _ _ h3,h4⟩
def mk (n io : Nat) (H : Heap) : Heap := if n = 0 then H else H.set io none
theorem Gr2.more {H : Heap} {es b n io k : Nat} {ov : AV} {vs x : List AV} {f : Bool} (g : Gr2 H es n io ov vs) (hk : H[k]? = some (some (.row x))) (hx : x.length = es) (ho : x.all one = true) (hb : b ≤ 1000000) (hn : n ≤ 1000000) :
 ∃ G,dH w0 H es b ov (.sl (.own k 0) 1 es f) = some (.sl (.own H.length 0) (n + 1) es false,G) ∧ Gr2 G es (n + 1) H.length (.sl (.own H.length 0) (n + 1) es false) (vs ++ x) ∧ aB (mk n io H) (mk (n + 1) H.length G) ∧ G.length = H.length + 1 := by
 have hlen : vs.length = n * es := by
  rcases g with ⟨h1,_,h3⟩ | ⟨_,_,_,h5⟩
  · subst h1; subst h3; simp
  · exact h5
 obtain ⟨G,e1,e2,e3,e4⟩ := mN (w0 := w0) (b := b) (f := f) g hk hx ho hb hn
 refine ⟨G,e1,.inr ⟨by omega,rfl,e3,by rw [List.length_append,hlen,hx,Nat.succ_mul]⟩,⟨?_,fun i c e => ?_⟩,e2⟩
 · simp only [mk]; split <;> (rw [if_neg (by omega)]; simp; omega)
 · have hi := aN e
   have hil : i < H.length := by simp only [mk] at hi; split at hi <;> simpa using hi
   simp only [mk] at e ⊢
   rw [if_neg (by omega),qB (by omega)]
   split at e
   · exact e4 i c (fun h => absurd (by assumption) h) e
   · by_cases h2 : io = i
     · subst h2
       rw [qF hil] at e; cases e
     · rw [qB h2] at e
       exact e4 i c (fun _ => fun h => h2 h.symm) e
theorem aB.set {G H : Heap} (s : aB G H) (i : Nat) : aB (G.set i none) (H.set i none) := by
 refine ⟨by simpa using s.1,fun j c e => ?_⟩
 by_cases e2 : i = j
 · subst e2
   have hl := aN e
   rw [qF (by simpa using hl)] at e; cases e
 · rw [qB e2] at e ⊢; exact s.2 j c e
theorem kZ {n io : Nat} {H : Heap} : aB (mk n io H) H := by unfold mk; split; exact aB.refl; exact aB.msk
theorem kM {n io : Nat} {G H : Heap} (s : aB G H) : aB (mk n io G) (mk n io H) := by unfold mk; split; exact s; exact s.set io
section
variable {fr : Fr}
def bdK (n : Nat) (l h : Option Nat) (m : Option (Option Nat)) : Option (Nat × Nat × Option Nat) := match l,h,m with
 | some l,some h,none => if l ≤ h ∧ h ≤ n then some (l,h,none) else none
 | some l,some h,some (some m) => if l ≤ h ∧ h ≤ m ∧ m ≤ n then some (l,h,some m) else none
 | _,_,_ => none
@[go_sem] theorem bdK_2 {n l h : Nat} : bdK n (some l) (some h) none = if l ≤ h ∧ h ≤ n then some (l,h,none) else none := (rfl)
@[go_sem] theorem bdK_3 {n l h m : Nat} : bdK n (some l) (some h) (some (some m)) = if l ≤ h ∧ h ≤ m ∧ m ≤ n then some (l,h,some m) else none := (rfl)
@[go_sem] theorem bounds_0 {n : Nat} : cT fr n none none none = some (0,n,none) := by simp [cT]
@[go_sem] theorem aBc {n : Nat} {y : Opd} : cT fr n none (some y) none = bdK n (some 0) (bU (y.ev fr)) none := by
 simp only [cT,bdK]; cases bU (y.ev fr) <;> rfl
@[go_sem] theorem bounds_l {n : Nat} {x : Opd} : cT fr n (some x) none none = bdK n (bU (x.ev fr)) (some n) none := by
 simp only [cT,bdK]; cases bU (x.ev fr) <;> rfl
@[go_sem] theorem bounds_lh {n : Nat} {x y : Opd} : cT fr n (some x) (some y) none = bdK n (bU (x.ev fr)) (bU (y.ev fr)) none := by
 simp only [cT,bdK]; cases bU (x.ev fr) <;> cases bU (y.ev fr) <;> rfl
@[go_sem] theorem yS {n : Nat} {y z : Opd} : cT fr n none (some y) (some z) = bdK n (some 0) (bU (y.ev fr)) (some (bU (z.ev fr))) := by
 simp only [cT,bdK]; cases bU (y.ev fr) <;> cases bU (z.ev fr) <;> rfl
def slK (p : Pl) (len es : Nat) (full : Bool) (b : Option (Nat × Nat × Option Nat)) : Option AV := b.map fun b => .sl (p.add (b.1 * es)) (b.2.1 - b.1) es (fB b.2.2 b.2.1 (full && b.2.1 == len))
@[go_sem] theorem slcV_sl {es : Nat} {p : Pl} {len : Nat} {full : Bool} {lo hi mx : Option Opd} : uG es fr (.sl p len es full) lo hi mx = slK p len es full (cT fr len lo hi mx) := by
 simp only [uG,nA,if_true]; rfl
@[go_sem] theorem slK_s {p : Pl} {len es l h : Nat} {full : Bool} {m : Option Nat} : slK p len es full (some (l,h,m)) = some (.sl (p.add (l * es)) (h - l) es (fB m h (full && h == len))) := (rfl)
@[go_sem] theorem slK_i {p : Pl} {len es : Nat} {full : Bool} {c : Prop} [Decidable c] {x : Nat × Nat × Option Nat} : slK p len es full (if c then some x else none) = if c then slK p len es full (some x) else none := by split <;> rfl
@[go_sem] theorem fullOf_n {h : Nat} {d : Bool} : fB none h d = d := (rfl)
@[go_sem] theorem fullOf_s {m h : Nat} {d : Bool} : fB (some m) h d = (m == h) := (rfl)
def aCI (n es i o : Nat) (b : Option (Option Blk)) (q : Option (Nat × Nat × Option Nat)) : Option AV := match b with
 | some (some (.row c)) => if o + n * es ≤ c.length then q.map fun b => .sl (.own i (o + b.1 * es)) (b.2.1 - b.1) es (fB b.2.2 b.2.1 (b.2.1 == n)) else none
 | _ => none
def aFz (n es : Nat) (x : AV) (h : Heap) (q : Option (Nat × Nat × Option Nat)) : Option AV := match x with
 | .ptr (.own i o) => aCI n es i o h[i]? q
 | _ => none
@[go_sem] theorem slcaV_p {n es i o : Nat} {q : Option (Nat × Nat × Option Nat)} : aFz n es (.ptr (.own i o)) h q = aCI n es i o h[i]? q := (rfl)
@[go_sem] theorem slcaB_r {n es i o l hh : Nat} {m : Option Nat} {c : List AV} : aCI n es i o (some (some (.row c))) (some (l,hh,m)) = if o + n * es ≤ c.length then some (.sl (.own i (o + l * es)) (hh - l) es (fB m hh (hh == n))) else none := (rfl)
@[go_sem] theorem aop_slca {n es : Nat} {x : Opd} {lo hi mx : Option Opd} : aop w0 (.slca n es x lo hi mx) fr h = onV (aFz n es (x.ev fr) h (cT fr n lo hi mx)) h := by
 simp only [aop,aFz]
 generalize Opd.ev fr x = a
 generalize cT fr n lo hi mx = q
 cases a <;> try rfl
 rename_i p
 cases p with
 | old a => rfl
 | own i o =>
  simp only [aCI]
  cases h[i]? with
  | none => rfl
  | some b =>
   cases b with
   | none => rfl
   | some b =>
    cases b with
    | row c =>
     simp only
     split
     · cases q <;> rfl
     · rfl
    | map es => rfl
    | loop _ _ _ _ _ _ _ => rfl
end
theorem aBC {P : Program} (hm : P.follows .mixedOrders = true) {f : FuncId} {mf : SF} (hf : bC P f = some mf.er) (hb : aL P f = true) (g : mf.body.good = true) {args : List AV} (hn : args.length ≤ mf.nt) {v : AV} {h1 : Heap} (hle : h.length ≤ h1.length) (hhb : HB h → HB h1)
 (hv : v.bdd h1.length) (e : HB h → AV.bdds h.length args → sx P w0 none mf.nt h.length mf.body (fA args 0) (h ++ []) (newK w0 mf.res h1 v)) : bA P w0 f args h v h1 := by
 refine nG (aY hm hf hb g hn fun b1 b2 => jL _ (e b1 b2) fun e fr h' q => ?_)
 have : ∀ {fr : Fr} {h' : Heap},mH w0 fr h' mf.res [] (rX h1 v) → ∃ v',iY w0 mf.res fr h' = some v' ∧ ∃ h2 k,h' = h2 ++ k ∧ h.length ≤ h2.length ∧ HB h2 ∧ v'.bdd h2.length ∧ v' = v ∧ h2 = h1 := fun q => by
  obtain ⟨v',q1,q2,k,q3⟩ := rE.2 q
  subst q2
  exact ⟨v',q1,h1,k,q3,hle,hhb b1,hv,rfl,rfl⟩
 cases e with
 | normal => exact this q
 | ret => exact this q
 | _ => exact q.elim
theorem qZ {α : Type} {l : List α} {i : Nat} {x : α} (h : l[i]? = some x) : l.set i x = l := by
 refine List.ext_getElem? fun k => ?_
 rw [List.getElem?_set]
 split
 · rename_i e; subst e; rw [if_pos (aN h),h]
 · rfl
attribute [go_sem] Nat.reduceEqDiff Nat.reduceAdd Nat.reduceSub Nat.reduceMul Nat.reduceLT Nat.reduceLeDiff Int.reduceLE Int.reduceLT Int.reduceAdd Int.reduceSub Int.reduceMul Int.reduceEq Int.reduceBEq Int.reduceBNe Int.reduceNeg Int.reduceToNat reduceCtorEq
attribute [go_sem ↓] reduceIte
end Go.Proofs.Ab
namespace Go.Proofs.Ab
open Go Go.Proofs
variable {w0 : World} {h : Heap}
attribute [local irreducible] ACall bY dD bA bX rvC lp rg dr ex un rv
structure bM where
 low : Int
 high : Int
@[go_sem] def bM.c (s : bM) : List AV := [.int .i64 s.low,.int .i64 s.high]
@[simp] theorem bM.c_bdd (N : Nat) (s : bM) : AV.bdds N s.c := by simp [bM.c,AV.bdds,AV.bdd]
def inB (x lo hi : Int) : Bool := decide (lo ≤ x) && decide (x ≤ hi)
theorem lX (x lo hi : Int) : bA Try.prog w0 68 [.int .i64 x,.int .i64 lo,.int .i64 hi] h (.bool (inB x lo hi)) h := by
 refine aQ aM aI3 mf68_b mf68_g (qE rfl) (by simp [AV.bdd,AV.bdds]) fun hb ha => aU ?_
 simp only [go_sem,mf68]
 exact ⟨fun a => by simp [inB,a],fun a => by simp [inB,a]⟩
def xN (s : bM) (hi : Int) : Bool := decide (0 ≤ s.low) && (decide (s.low ≤ s.high) && decide (s.high ≤ hi))
theorem aFo (s : bM) (hi : Int) : bA Try.prog w0 104 [.agg s.c,.int .i64 hi] h (.bool (xN s hi)) h := by
 refine aQ aM aGF aKG aKF (qE rfl) (by simp [AV.bdd,AV.bdds]) fun hb ha => aU ?_
 simp only [go_sem,mf104]
 refine ⟨fun a => ⟨fun b => ?_,fun b => ?_⟩,fun a => ?_⟩ <;> simp_all [xN] <;> omega
theorem hZ {z l : List AV} (e : l.length = z.length) : cB z 0 l = l := by
 simp only [cB,List.take_zero,List.nil_append,Nat.zero_add,e,List.drop_length,List.append_nil]
theorem aDk (rows : List (List AV)) (v fv : AV) (p : Nat → Bool) (hv : Sl w0 h 1 v rows) (ho : ∀ c ∈ rows,c.all one = true) (hn : rows.length < 1000000)
 (hf : ∀ (j : Nat) x,rows[j]? = some [x] → (∀ i,i < j → p i = true) → ∀ L,bX Try.prog w0 fv [.int .i64 j,x] (h ++ L) (.bool (p j)) (h ++ L)) : bA Try.prog w0 69 [v,fv] h (.bool ((List.range rows.length).all p)) h := by
 refine aQ aM aI2 mf69_b mf69_g (qE rfl) (by simp [AV.bdd,AV.bdds]) fun hb ha => aU ?_
 have hfb : fv.bdd h.length := by simp only [AV.bdds] at ha; exact ha.2.1
 obtain ⟨hlen,q,hix,hrow,_⟩ := hv.use
 have vb := hv.bdd (Nat.le_refl _)
 simp only [go_sem,mf69,hlen]
 refine dR (fun j => [(1,fv),(7,v),(8,.int .i64 rows.length),(9,.int .i64 j)]) (fun j => p j = true) rows.length rfl (fun j hj hall ih => ?_) (fun hall => ?_)
 · refine aE aM aDI [1,7,8,9] L69_0.eq_1 ?_
   have e1 := hix j hj
   have e3 : (j : Int) < rows.length := by omega
   obtain ⟨x,hx⟩ : ∃ x,rows[j] = [x] := by
    have := (kL (hrow j _ (qA hj))).1
    exact List.length_eq_one_iff.1 this
   have hc : rows[j]? = some [x] := by rw [qA hj,hx]
   have e2 : ∀ L,rd w0 (h ++ L) (q.add j) = some x := fun L => by
    have := cC (dJ (l := L) (hrow j _ hc)) (o := 0) (x := x) rfl
    rw [Nat.mul_one] at this
    rwa [show (q.add j).add 0 = q.add j by cases q <;> simp [Pl.add,Addr.add]] at this
   rw [Nat.mul_one] at e1
   simp only [go_sem,e1,e2,e3]
   refine aF (by simpa using hf j x hc hall []) ?_
   simp only [go_sem]
   refine ⟨fun e => ?_,fun e => ⟨(by unfold I64; omega),by simpa using ih e⟩⟩
   have : (List.range rows.length).all p = false := by
    rw [List.all_eq_false]; exact ⟨j,List.mem_range.2 hj,by simp [e]⟩
   rw [this]
   exact ⟨rfl,[],(List.append_nil h).symm⟩
 · refine aE aM aDI [1,7,8,9] L69_0.eq_1 ?_
   have e3 : ¬ (rows.length : Int) < rows.length := by omega
   simp only [go_sem,e3]
   have : (List.range rows.length).all p = true := by rw [List.all_eq_true]; exact fun x hx => hall x (List.mem_range.1 hx)
   rw [this]
theorem aHD (rows : List (List AV)) (v fv : AV) (p : Nat → Bool) (hv : Sl w0 h 2 v rows) (ho : ∀ c ∈ rows,c.all one = true) (hn : rows.length < 1000000)
 (hf : ∀ (j : Nat) c,rows[j]? = some c → (∀ i,i < j → p i = true) → ∀ L,bX Try.prog w0 fv [.int .i64 j,.agg c] (h ++ L) (.bool (p j)) (h ++ L)) : bA Try.prog w0 100 [v,fv] h (.bool ((List.range rows.length).all p)) h := by
 refine aQ aM aGJ aKO aKN (qE rfl) (by simp [AV.bdd,AV.bdds]) fun hb ha => aU ?_
 have hfb : fv.bdd h.length := by simp only [AV.bdds] at ha; exact ha.2.1
 obtain ⟨hlen,q,hix,hrow,_⟩ := hv.use
 have vb := hv.bdd (Nat.le_refl _)
 simp only [go_sem,mf100,hlen]
 refine dR (fun j => [(1,fv),(7,v),(8,.int .i64 rows.length),(9,.int .i64 j)]) (fun j => p j = true) rows.length rfl (fun j hj hall ih => ?_) (fun hall => ?_)
 · refine aE aM aBz [1,7,8,9] L100_0.eq_1 ?_
   have e1 := hix j hj
   have e3 : (j : Int) < rows.length := by omega
   obtain ⟨c,hc⟩ : ∃ c,rows[j]? = some c := ⟨_,qA hj⟩
   have e2 : ∀ L,rdn w0 (h ++ L) (q.add (j * 2)) 2 = some c := fun L => dJ (hrow j c hc)
   have e4 : c.all one = true := ho c (List.mem_of_getElem? hc)
   have e5 : c.length = 2 := (kL (hrow j c hc)).1
   have e6 : List.take 2 c = c := List.take_of_length_le (by omega)
   simp only [go_sem,e1,e2,e3,e4,e5,hZ,e6]
   refine aF (hf j c hc hall _) ?_
   simp only [go_sem]
   refine ⟨fun e => ?_,fun e => ⟨(by unfold I64; omega),iU 0 hb (by simp [bJ,bN,bZ,cJ,cY,bR,AV.bdds,AV.bdd,Pl.bdd,bI]) (by simp [bJ,bN,bZ,cJ,cY,bR,AV.bdds,AV.bdd,Pl.bdd,bI,hfb,vb]) (ih e)⟩⟩
   have : (List.range rows.length).all p = false := by
    rw [List.all_eq_false]; exact ⟨j,List.mem_range.2 hj,by simp [e]⟩
   rw [this]
 · refine aE aM aBz [1,7,8,9] L100_0.eq_1 ?_
   have e3 : ¬ (rows.length : Int) < rows.length := by omega
   simp only [go_sem,e3]
   have : (List.range rows.length).all p = true := by rw [List.all_eq_true]; exact fun x hx => hall x (List.mem_range.1 hx)
   rw [this]
theorem aBk (rows : List (List AV)) (v fv : AV) (p : Nat → Bool) (hv : Sl w0 h 2 v rows) (ho : ∀ c ∈ rows,c.all one = true) (hn : rows.length < 1000000)
 (hf : ∀ (j : Nat) c,rows[j]? = some c → (∀ i,i < j → p i = true) → ∀ L,bX Try.prog w0 fv [.int .i64 j,.agg c] (h ++ L) (.bool (p j)) (h ++ L)) : bA Try.prog w0 102 [v,fv] h (.bool ((List.range rows.length).all p)) h := by
 refine aQ aM aGH aKK aKJ (qE rfl) (by simp [AV.bdd,AV.bdds]) fun hb ha => aU ?_
 have hfb : fv.bdd h.length := by simp only [AV.bdds] at ha; exact ha.2.1
 obtain ⟨hlen,q,hix,hrow,_⟩ := hv.use
 have vb := hv.bdd (Nat.le_refl _)
 simp only [go_sem,mf102,hlen]
 refine dR (fun j => [(1,fv),(7,v),(8,.int .i64 rows.length),(9,.int .i64 j)]) (fun j => p j = true) rows.length rfl (fun j hj hall ih => ?_) (fun hall => ?_)
 · refine aE aM aBy [1,7,8,9] L102_0.eq_1 ?_
   have e1 := hix j hj
   have e3 : (j : Int) < rows.length := by omega
   obtain ⟨c,hc⟩ : ∃ c,rows[j]? = some c := ⟨_,qA hj⟩
   have e2 : ∀ L,rdn w0 (h ++ L) (q.add (j * 2)) 2 = some c := fun L => dJ (hrow j c hc)
   have e4 : c.all one = true := ho c (List.mem_of_getElem? hc)
   have e5 : c.length = 2 := (kL (hrow j c hc)).1
   have e6 : List.take 2 c = c := List.take_of_length_le (by omega)
   simp only [go_sem,e1,e2,e3,e4,e5,hZ,e6]
   refine aF (hf j c hc hall _) ?_
   simp only [go_sem]
   refine ⟨fun e => ?_,fun e => ⟨(by unfold I64; omega),iU 0 hb (by simp [bJ,bN,bZ,cJ,cY,bR,AV.bdds,AV.bdd,Pl.bdd,bI]) (by simp [bJ,bN,bZ,cJ,cY,bR,AV.bdds,AV.bdd,Pl.bdd,bI,hfb,vb]) (ih e)⟩⟩
   have : (List.range rows.length).all p = false := by
    rw [List.all_eq_false]; exact ⟨j,List.mem_range.2 hj,by simp [e]⟩
   rw [this]
 · refine aE aM aBy [1,7,8,9] L102_0.eq_1 ?_
   have e3 : ¬ (rows.length : Int) < rows.length := by omega
   simp only [go_sem,e3]
   have : (List.range rows.length).all p = true := by rw [List.all_eq_true]; exact fun x hx => hall x (List.mem_range.1 hx)
   rw [this]
theorem aHB (rows : List (List AV)) (v fv : AV) (p : Nat → Bool) (hv : Sl w0 h 5 v rows) (ho : ∀ c ∈ rows,c.all one = true) (hn : rows.length < 1000000)
 (hf : ∀ (j : Nat) c,rows[j]? = some c → (∀ i,i < j → p i = true) → ∀ L,bX Try.prog w0 fv [.int .i64 j,.agg c] (h ++ L) (.bool (p j)) (h ++ L)) : bA Try.prog w0 111 [v,fv] h (.bool ((List.range rows.length).all p)) h := by
 refine aQ aM aGz aKu aKt (qE rfl) (by simp [AV.bdd,AV.bdds]) fun hb ha => aU ?_
 have hfb : fv.bdd h.length := by simp only [AV.bdds] at ha; exact ha.2.1
 obtain ⟨hlen,q,hix,hrow,_⟩ := hv.use
 have vb := hv.bdd (Nat.le_refl _)
 simp only [go_sem,mf111,hlen]
 refine dR (fun j => [(1,fv),(7,v),(8,.int .i64 rows.length),(9,.int .i64 j)]) (fun j => p j = true) rows.length rfl (fun j hj hall ih => ?_) (fun hall => ?_)
 · refine aE aM aBw [1,7,8,9] L111_0.eq_1 ?_
   have e1 := hix j hj
   have e3 : (j : Int) < rows.length := by omega
   obtain ⟨c,hc⟩ : ∃ c,rows[j]? = some c := ⟨_,qA hj⟩
   have e2 : ∀ L,rdn w0 (h ++ L) (q.add (j * 5)) 5 = some c := fun L => dJ (hrow j c hc)
   have e4 : c.all one = true := ho c (List.mem_of_getElem? hc)
   have e5 : c.length = 5 := (kL (hrow j c hc)).1
   have e6 : List.take 5 c = c := List.take_of_length_le (by omega)
   simp only [go_sem,e1,e2,e3,e4,e5,hZ,e6]
   refine aF (hf j c hc hall _) ?_
   simp only [go_sem]
   refine ⟨fun e => ?_,fun e => ⟨(by unfold I64; omega),iU 0 hb (by simp [bJ,bN,bZ,cJ,cY,bR,AV.bdds,AV.bdd,Pl.bdd,bI]) (by simp [bJ,bN,bZ,cJ,cY,bR,AV.bdds,AV.bdd,Pl.bdd,bI,hfb,vb]) (ih e)⟩⟩
   have : (List.range rows.length).all p = false := by
    rw [List.all_eq_false]; exact ⟨j,List.mem_range.2 hj,by simp [e]⟩
   rw [this]
 · refine aE aM aBw [1,7,8,9] L111_0.eq_1 ?_
   have e3 : ¬ (rows.length : Int) < rows.length := by omega
   simp only [go_sem,e3]
   have : (List.range rows.length).all p = true := by rw [List.all_eq_true]; exact fun x hx => hall x (List.mem_range.1 hx)
   rw [this]
theorem aHA (rows : List (List AV)) (v fv : AV) (p : Nat → Bool) (hv : Sl w0 h 2 v rows) (ho : ∀ c ∈ rows,c.all one = true) (hn : rows.length < 1000000)
 (hf : ∀ (j : Nat) c,rows[j]? = some c → (∀ i,i < j → p i = true) → ∀ L,bX Try.prog w0 fv [.int .i64 j,.agg c] (h ++ L) (.bool (p j)) (h ++ L)) : bA Try.prog w0 113 [v,fv] h (.bool ((List.range rows.length).all p)) h := by
 refine aQ aM aGx aKq aKp (qE rfl) (by simp [AV.bdd,AV.bdds]) fun hb ha => aU ?_
 have hfb : fv.bdd h.length := by simp only [AV.bdds] at ha; exact ha.2.1
 obtain ⟨hlen,q,hix,hrow,_⟩ := hv.use
 have vb := hv.bdd (Nat.le_refl _)
 simp only [go_sem,mf113,hlen]
 refine dR (fun j => [(1,fv),(7,v),(8,.int .i64 rows.length),(9,.int .i64 j)]) (fun j => p j = true) rows.length rfl (fun j hj hall ih => ?_) (fun hall => ?_)
 · refine aE aM aBv [1,7,8,9] L113_0.eq_1 ?_
   have e1 := hix j hj
   have e3 : (j : Int) < rows.length := by omega
   obtain ⟨c,hc⟩ : ∃ c,rows[j]? = some c := ⟨_,qA hj⟩
   have e2 : ∀ L,rdn w0 (h ++ L) (q.add (j * 2)) 2 = some c := fun L => dJ (hrow j c hc)
   have e4 : c.all one = true := ho c (List.mem_of_getElem? hc)
   have e5 : c.length = 2 := (kL (hrow j c hc)).1
   have e6 : List.take 2 c = c := List.take_of_length_le (by omega)
   simp only [go_sem,e1,e2,e3,e4,e5,hZ,e6]
   refine aF (hf j c hc hall _) ?_
   simp only [go_sem]
   refine ⟨fun e => ?_,fun e => ⟨(by unfold I64; omega),iU 0 hb (by simp [bJ,bN,bZ,cJ,cY,bR,AV.bdds,AV.bdd,Pl.bdd,bI]) (by simp [bJ,bN,bZ,cJ,cY,bR,AV.bdds,AV.bdd,Pl.bdd,bI,hfb,vb]) (ih e)⟩⟩
   have : (List.range rows.length).all p = false := by
    rw [List.all_eq_false]; exact ⟨j,List.mem_range.2 hj,by simp [e]⟩
   rw [this]
 · refine aE aM aBv [1,7,8,9] L113_0.eq_1 ?_
   have e3 : ¬ (rows.length : Int) < rows.length := by omega
   simp only [go_sem,e3]
   have : (List.range rows.length).all p = true := by rw [List.all_eq_true]; exact fun x hx => hall x (List.mem_range.1 hx)
   rw [this]
theorem aHz (rows : List (List AV)) (v fv : AV) (p : Nat → Bool) (hv : Sl w0 h 1 v rows) (ho : ∀ c ∈ rows,c.all one = true) (hn : rows.length < 1000000)
 (hf : ∀ (j : Nat) x,rows[j]? = some [x] → (∀ i,i < j → p i = true) → ∀ L,bX Try.prog w0 fv [.int .i64 j,x] (h ++ L) (.bool (p j)) (h ++ L)) : bA Try.prog w0 117 [v,fv] h (.bool ((List.range rows.length).all p)) h := by
 refine aQ aM aGt aKi aKh (qE rfl) (by simp [AV.bdd,AV.bdds]) fun hb ha => aU ?_
 have hfb : fv.bdd h.length := by simp only [AV.bdds] at ha; exact ha.2.1
 obtain ⟨hlen,q,hix,hrow,_⟩ := hv.use
 have vb := hv.bdd (Nat.le_refl _)
 simp only [go_sem,mf117,hlen]
 refine dR (fun j => [(1,fv),(7,v),(8,.int .i64 rows.length),(9,.int .i64 j)]) (fun j => p j = true) rows.length rfl (fun j hj hall ih => ?_) (fun hall => ?_)
 · refine aE aM aBu [1,7,8,9] L117_0.eq_1 ?_
   have e1 := hix j hj
   have e3 : (j : Int) < rows.length := by omega
   obtain ⟨x,hx⟩ : ∃ x,rows[j] = [x] := by
    have := (kL (hrow j _ (qA hj))).1
    exact List.length_eq_one_iff.1 this
   have hc : rows[j]? = some [x] := by rw [qA hj,hx]
   have e2 : ∀ L,rd w0 (h ++ L) (q.add j) = some x := fun L => by
    have := cC (dJ (l := L) (hrow j _ hc)) (o := 0) (x := x) rfl
    rw [Nat.mul_one] at this
    rwa [show (q.add j).add 0 = q.add j by cases q <;> simp [Pl.add,Addr.add]] at this
   rw [Nat.mul_one] at e1
   simp only [go_sem,e1,e2,e3]
   refine aF (by simpa using hf j x hc hall []) ?_
   simp only [go_sem]
   refine ⟨fun e => ?_,fun e => ⟨(by unfold I64; omega),by simpa using ih e⟩⟩
   have : (List.range rows.length).all p = false := by
    rw [List.all_eq_false]; exact ⟨j,List.mem_range.2 hj,by simp [e]⟩
   rw [this]
   exact ⟨rfl,[],(List.append_nil h).symm⟩
 · refine aE aM aBu [1,7,8,9] L117_0.eq_1 ?_
   have e3 : ¬ (rows.length : Int) < rows.length := by omega
   simp only [go_sem,e3]
   have : (List.range rows.length).all p = true := by rw [List.all_eq_true]; exact fun x hx => hall x (List.mem_range.1 hx)
   rw [this]
theorem aHy (rows : List (List AV)) (v fv : AV) (p : Nat → Bool) (hv : Sl w0 h 2 v rows) (ho : ∀ c ∈ rows,c.all one = true) (hn : rows.length < 1000000)
 (hf : ∀ (j : Nat) c,rows[j]? = some c → (∀ i,i < j → p i = true) → ∀ L,bX Try.prog w0 fv [.int .i64 j,.agg c] (h ++ L) (.bool (p j)) (h ++ L)) : bA Try.prog w0 120 [v,fv] h (.bool ((List.range rows.length).all p)) h := by
 refine aQ aM aGq aKc aKb (qE rfl) (by simp [AV.bdd,AV.bdds]) fun hb ha => aU ?_
 have hfb : fv.bdd h.length := by simp only [AV.bdds] at ha; exact ha.2.1
 obtain ⟨hlen,q,hix,hrow,_⟩ := hv.use
 have vb := hv.bdd (Nat.le_refl _)
 simp only [go_sem,mf120,hlen]
 refine dR (fun j => [(1,fv),(7,v),(8,.int .i64 rows.length),(9,.int .i64 j)]) (fun j => p j = true) rows.length rfl (fun j hj hall ih => ?_) (fun hall => ?_)
 · refine aE aM aBt [1,7,8,9] L120_0.eq_1 ?_
   have e1 := hix j hj
   have e3 : (j : Int) < rows.length := by omega
   obtain ⟨c,hc⟩ : ∃ c,rows[j]? = some c := ⟨_,qA hj⟩
   have e2 : ∀ L,rdn w0 (h ++ L) (q.add (j * 2)) 2 = some c := fun L => dJ (hrow j c hc)
   have e4 : c.all one = true := ho c (List.mem_of_getElem? hc)
   have e5 : c.length = 2 := (kL (hrow j c hc)).1
   have e6 : List.take 2 c = c := List.take_of_length_le (by omega)
   simp only [go_sem,e1,e2,e3,e4,e5,hZ,e6]
   refine aF (hf j c hc hall _) ?_
   simp only [go_sem]
   refine ⟨fun e => ?_,fun e => ⟨(by unfold I64; omega),iU 0 hb (by simp [bJ,bN,bZ,cJ,cY,bR,AV.bdds,AV.bdd,Pl.bdd,bI]) (by simp [bJ,bN,bZ,cJ,cY,bR,AV.bdds,AV.bdd,Pl.bdd,bI,hfb,vb]) (ih e)⟩⟩
   have : (List.range rows.length).all p = false := by
    rw [List.all_eq_false]; exact ⟨j,List.mem_range.2 hj,by simp [e]⟩
   rw [this]
 · refine aE aM aBt [1,7,8,9] L120_0.eq_1 ?_
   have e3 : ¬ (rows.length : Int) < rows.length := by omega
   simp only [go_sem,e3]
   have : (List.range rows.length).all p = true := by rw [List.all_eq_true]; exact fun x hx => hall x (List.mem_range.1 hx)
   rw [this]
theorem aI {α : Type} {l : List α} {i : Nat} {d : α} (h : i < l.length) : l.getD i d = l[i] := by rw [List.getD_eq_getElem?_getD,qA h]; rfl
theorem cR {n : Nat} {p : Nat → Bool} : (List.range n).all p = true ↔ ∀ i,i < n → p i = true := by
 rw [List.all_eq_true]; exact ⟨fun x i hi => x i (List.mem_range.2 hi),fun x i hi => x i (List.mem_range.1 hi)⟩
theorem vK {p : Pl} {n : Nat} {l : List AV} (e : rdn w0 h p n = some l) {x : AV} (hx : l[0]? = some x) : rd w0 h p = some x := by
 have := cC e hx
 rwa [show p.add 0 = p by cases p <;> simp [Pl.add,Addr.add]] at this
structure uD where
 windows : List bM
 turn : Int
structure cH where
 stops : List uD
 legs : List bM
structure iX where
 sv : AV
 lv : AV
 ws : List AV
@[go_sem] def cX (v : iX) : List AV := [v.sv,v.lv]
@[go_sem] def nM (w : AV) (s : uD) : List AV := [w,.int .i64 s.turn]
def fP (ws : List AV) (l : List uD) : List (List AV) := List.zipWith nM ws l
structure ChainS (w0 : World) (h : Heap) (c : cH) (v : iX) : Prop where
 wl : v.ws.length = c.stops.length
 stops : Sl w0 h 2 v.sv (fP v.ws c.stops)
 wins : ∀ (j : Nat) x s,v.ws[j]? = some x → c.stops[j]? = some s → Sl w0 h 2 x (s.windows.map bM.c)
 legs : Sl w0 h 2 v.lv (c.legs.map bM.c)
structure gK (w0 : World) (h : Heap) (c : cH) (v : iX) : Prop extends ChainS w0 h c v where
 ls : c.stops.length < 1000000
 ll : c.legs.length < 1000000
 lw : ∀ s ∈ c.stops,s.windows.length < 1000000
section
variable {c : cH} {v : iX}
theorem ChainS.sub {H : Heap} (s : ChainS w0 h c v) (t : aB h H) : ChainS w0 H c v := ⟨s.wl,s.stops.sub t,fun j x y a b => (s.wins j x y a b).sub t,s.legs.sub t⟩
theorem ChainS.app {L : Heap} (s : ChainS w0 h c v) : ChainS w0 (h ++ L) c v := s.sub aB.refl.app
theorem gK.sub {H : Heap} (s : gK w0 h c v) (t : aB h H) : gK w0 H c v := ⟨s.toChainS.sub t,s.ls,s.ll,s.lw⟩
theorem gK.app {L : Heap} (s : gK w0 h c v) : gK w0 (h ++ L) c v := s.sub aB.refl.app
theorem gM (s : ChainS w0 h c v) : (fP v.ws c.stops).length = c.stops.length := by simp [fP,s.wl]
theorem ChainS.stop (s : ChainS w0 h c v) {j : Nat} (hj : j < c.stops.length) : ∃ (p : Pl) (x : AV),bT 2 v.sv (some j) = some (.ptr p) ∧ (∀ L,rdn w0 (h ++ L) p 2 = some (nM x c.stops[j])) ∧ Sl w0 h 2 x (c.stops[j].windows.map bM.c) := by
 have hw := s.wl
 obtain ⟨p,p1,p2⟩ := s.stops.lt (j := j) (by rw [gM s]; exact hj)
 obtain ⟨x,hx⟩ : ∃ x,v.ws[j]? = some x := ⟨_,qA (by omega)⟩
 refine ⟨p,x,p1,fun L => p2 L _ ?_,s.wins j x _ hx (qA hj)⟩
 simp only [fP,List.getElem?_zipWith,hx,qA hj]
theorem ChainS.leg (s : ChainS w0 h c v) {j : Nat} (hj : j < c.legs.length) : ∃ p : Pl,bT 2 v.lv (some j) = some (.ptr p) ∧ ∀ L,rdn w0 (h ++ L) p 2 = some c.legs[j].c := by
 obtain ⟨p,p1,p2⟩ := s.legs.lt (j := j) (by simpa using hj)
 exact ⟨p,p1,fun L => p2 L _ (by simp [hj])⟩
end
def hY (l : List bM) (t : Int) : Bool := l.any fun w => inB t w.low w.high
theorem aB7 (s : uD) (wv : AV) (t : Int) (hw : Sl w0 h 2 wv (s.windows.map bM.c)) (hn : s.windows.length < 1000000) : bA Try.prog w0 72 [.agg (nM wv s),.int .i64 t] h (.bool (hY s.windows t)) h := by
 refine aQ aM aIZ mf72_b mf72_g (qE rfl) (by simp [AV.bdd,AV.bdds]) fun hb ha => aU ?_
 obtain ⟨hlen,q,hix,hrow,_⟩ := hw.use
 have vb := hw.bdd (Nat.le_refl _)
 have vb1 : wv.bdd (h.length + 1) := AV.bdd_mono (Nat.le_succ _) _ vb
 have o1 := hw.one.1
 simp only [List.length_map] at hlen hix
 simp only [go_sem,mf72,hlen,o1]
 refine dR (fun j => [(1,.int .i64 t),(8,wv),(9,.int .i64 s.windows.length),(10,.int .i64 j)]) (fun j => ∀ hj : j < s.windows.length,inB t s.windows[j].low s.windows[j].high = false) s.windows.length rfl (fun j hj hall ih => ?_) (fun hall => ?_)
 · refine aE aM aDH [1,8,9,10] L72_0.eq_1 ?_
   have e1 := hix j hj
   have e3 : (j : Int) < s.windows.length := by omega
   have e2 : ∀ L,rdn w0 (h ++ L) (q.add (j * 2)) 2 = some s.windows[j].c := fun L => dJ (hrow j _ (by simp [hj]))
   simp only [go_sem,e1,e2,e3]
   refine aF (lX _ _ _).v ?_
   simp only [go_sem]
   refine ⟨fun e => ?_,fun e => ⟨(by unfold I64; omega),iU 1 hb (by simp [bJ,bN,bZ,cJ,cY,bR,AV.bdds,AV.bdd,Pl.bdd,bI,nM,vb,vb1]) (by simp [bJ,bN,bZ,cJ,cY,bR,AV.bdds,AV.bdd,Pl.bdd,bI,vb,vb1]) (ih fun _ => e)⟩⟩
   have : hY s.windows t = true := by rw [hY,List.any_eq_true]; exact ⟨_,qG hj,e⟩
   rw [this]
 · refine aE aM aDH [1,8,9,10] L72_0.eq_1 ?_
   have e3 : ¬ (s.windows.length : Int) < s.windows.length := by omega
   simp only [go_sem,e3]
   have : hY s.windows t = false := by
    rw [hY,List.any_eq_false]; intro w hw
    obtain ⟨j,hj,rfl⟩ := List.getElem_of_mem hw
    simp [hall j hj hj]
   rw [this]
def aAl (l : List bM) (i : Nat) : Bool := xN (l.getD i ⟨0,0⟩) 1440 && (i == 0 || decide ((l.getD (i - 1) ⟨0,0⟩).high + 1 < (l.getD i ⟨0,0⟩).low))
def vA (l : List bM) : Bool := (List.range l.length).all (aAl l)
def qX (s : uD) : Bool := decide (s.windows.length ≤ 10) && (inB s.turn 0 300 && vA s.windows)
def aEu (s : bM) : Bool := xN s 300
def eO (c : cH) : Bool := inB c.stops.length 2 8 && (decide ((c.legs.length : Int) = c.stops.length - 1) && (c.stops.all qX && c.legs.all aEu))
theorem win_c (s : uD) (wv : AV) (j : Nat) {ib : Nat} (hi : h[ib]? = some (some (.row (nM wv s)))) (hw : Sl w0 h 2 wv (s.windows.map bM.c)) (hn : s.windows.length ≤ 10) (hj : j < s.windows.length) (hall : ∀ i,i < j → aAl s.windows i = true) :
 bA Try.prog w0 103 [.int .i64 j,.agg s.windows[j].c,.ptr (.own ib 0)] h (.bool (aAl s.windows j)) h := by
 refine aQ aM aGG aKI aKH (qE rfl) (by simp [AV.bdd,AV.bdds]) fun hb ha => aU ?_
 have hi' := xL hi
 obtain ⟨hlen,q,hix,hrow,_⟩ := hw.use
 simp only [List.length_map] at hlen hix
 obtain ⟨w,ew⟩ : ∃ w,s.windows[j] = w := ⟨_,rfl⟩
 have hg : s.windows.getD j ⟨0,0⟩ = w := by rw [aI hj,ew]
 have hil := aN hi
 rw [ew]
 simp only [go_sem,mf103]
 refine aF (aFo w 1440).v ?_
 simp only [go_sem]
 refine ⟨fun e1 => ⟨fun e2 => ?_,fun e2 => ?_⟩,fun e1 => ?_⟩
 · obtain ⟨k,rfl⟩ : ∃ k,j = k + 1 := ⟨j - 1,by omega⟩
   have hk : k < s.windows.length := by omega
   have g2 : s.windows.getD k ⟨0,0⟩ = s.windows[k] := aI hk
   have hp := hall k (by omega)
   simp only [aAl,g2,xN,Bool.and_eq_true,decide_eq_true_eq] at hp
   have d2 : bU (.int .i64 (((k + 1 : Nat) : Int) - 1)) = some k := by rw [show ((k + 1 : Nat) : Int) - 1 = (k : Int) by omega]; exact kQ
   have i1 := hix k hk
   have r1 : ∀ L,rd w0 (h ++ L) ((q.add (k * 2)).add 1) = some (.int .i64 s.windows[k].high) := fun L => cC (dJ (hrow k s.windows[k].c (by simp [hk]))) rfl
   simp only [go_sem,hi',d2,i1,r1]
   refine ⟨(by unfold I64; omega),(by unfold I64; omega),?_⟩
   have hz : (k + 1 == 0) = false := rfl
   simp only [aAl,hg,Nat.add_sub_cancel,g2,e1,hz,Bool.true_and,Bool.false_or]
 · obtain rfl : j = 0 := by omega
   simp only [aAl,hg,e1]
   rfl
 · simp only [aAl,hg,e1]; rfl
theorem xM (l : List bM) : ∀ c ∈ l.map bM.c,c.all one = true := fun c hc => by
 obtain ⟨s,_,rfl⟩ := List.mem_map.1 hc; rfl
theorem stop_c (s : uD) (wv : AV) (j : Int) (hw : Sl w0 h 2 wv (s.windows.map bM.c)) (hn : s.windows.length < 1000000) : bA Try.prog w0 101 [.int .i64 j,.agg (nM wv s)] h (.bool (qX s)) h := by
 refine aQ aM aGI aKM aKL (qE rfl) (by simp [AV.bdd,AV.bdds]) fun hb ha => aU ?_
 have hlen := hw.use.1
 simp only [List.length_map] at hlen
 have o1 := hw.one.1
 simp only [go_sem,mf101,hlen,o1]
 refine ⟨fun e1 => ?_,fun e1 => ?_⟩
 · refine aF (lX _ _ _).v ?_
   simp only [go_sem]
   refine ⟨fun e2 => ?_,fun e2 => ?_⟩
   · refine aF (aBk (s.windows.map bM.c) wv (.fn (.func 103) [] [.ptr (.own h.length 0)]) (aAl s.windows) hw.app (xM _) (by simpa using hn) (fun j c hc hall L => ?_)).v ?_
     · have hj : j < s.windows.length := by have := aN hc; simpa using this
       have : c = s.windows[j].c := by simpa [hj] using hc.symm
       subst this
       exact (win_c s wv j (ib := h.length) (by simp [nM]) hw.app.app (by omega) hj hall).vc (first := []) (capt := [.ptr (.own h.length 0)])
     · simp only [go_sem]
       simp only [List.length_map]
       simp [qX,e1,e2,vA]
       intro _; omega
   · simp [qX,e1,e2]
 · simp [qX]; omega
theorem leg_c (s : bM) (j : Int) : bA Try.prog w0 105 [.int .i64 j,.agg s.c] h (.bool (aEu s)) h := by
 refine aQ aM aGE aKE aKD (qE rfl) (by simp [AV.bdd,AV.bdds]) fun hb ha => aU ?_
 simp only [go_sem,mf105]
 refine aF (aFo s 300).v ?_
 simp only [go_sem]
 rfl
theorem tH (c : cH) (v : iX) (hR : gK w0 h c v) : bA Try.prog w0 62 [.agg (cX v)] h (.bool (eO c)) h := by
 refine aQ aM aI7 mf62_b mf62_g (qE rfl) (by simp [AV.bdd,AV.bdds]) fun hb ha => aU ?_
 have l1 := hR.stops.use.1
 have l2 := hR.legs.use.1
 rw [gM hR.toChainS] at l1
 simp only [List.length_map] at l2
 have o1 := hR.stops.one.1
 have o2 := hR.legs.one.1
 have hl := hR.ls
 have hl2 := hR.ll
 simp only [go_sem,mf62,o1,o2]
 have a1 : (List.range (fP v.ws c.stops).length).all (fun j => qX (c.stops.getD j ⟨[],0⟩)) = c.stops.all qX := by
  refine Bool.eq_iff_iff.2 ?_
  rw [cR,gM hR.toChainS,List.all_eq_true]
  constructor
  · intro x s hs
    obtain ⟨j,hj,rfl⟩ := List.getElem_of_mem hs
    have := x j hj
    rwa [aI hj] at this
  · intro x i hi
    rw [aI hi]; exact x _ (qG hi)
 have a2 : (List.range (c.legs.map bM.c).length).all (fun j => aEu (c.legs.getD j ⟨0,0⟩)) = c.legs.all aEu := by
  refine Bool.eq_iff_iff.2 ?_
  rw [cR,List.length_map,List.all_eq_true]
  constructor
  · intro x s hs
    obtain ⟨j,hj,rfl⟩ := List.getElem_of_mem hs
    have := x j hj
    rwa [aI hj] at this
  · intro x i hi
    rw [aI hi]; exact x _ (qG hi)
 refine aF (aHD (fP v.ws c.stops) v.sv (.fn (.func 101) [] []) (fun j => qX (c.stops.getD j ⟨[],0⟩)) hR.stops.app ?_ (by rw [gM hR.toChainS]; exact hl) (fun j r hc hall L => ?_)).v ?_
 · intro r hr
   obtain ⟨j,hj,rfl⟩ := List.getElem_of_mem hr
   rw [gM hR.toChainS] at hj
   obtain ⟨x,hx⟩ : ∃ x,v.ws[j]? = some x := ⟨_,qA (by rw [hR.wl]; exact hj)⟩
   have := (hR.wins j x _ hx (qA hj)).one.1
   have hx' := (List.getElem?_eq_some_iff.1 hx).2
   simp only [fP,List.getElem_zipWith,nM,List.all_cons,hx',this]; rfl
 · have hj : j < c.stops.length := by have := aN hc; rwa [gM hR.toChainS] at this
   obtain ⟨x,hx⟩ : ∃ x,v.ws[j]? = some x := ⟨_,qA (by rw [hR.wl]; exact hj)⟩
   have : r = nM x c.stops[j] := by
    simp only [fP,List.getElem?_zipWith,hx,qA hj,Option.some.injEq] at hc
    exact hc.symm
   subst this
   simp only [aI hj]
   exact (stop_c c.stops[j] x j (hR.wins j x _ hx (qA hj)).app.app (hR.lw _ (qG hj))).v
 rw [a1]
 simp only [go_sem]
 refine aF (aBk (c.legs.map bM.c) v.lv (.fn (.func 105) [] []) (fun j => aEu (c.legs.getD j ⟨0,0⟩)) hR.legs.app (xM _) (by simpa using hl2) (fun j r hc hall L => ?_)).v ?_
 · have hj : j < c.legs.length := by have := aN hc; simpa using this
   have : r = c.legs[j].c := by simpa [hj] using hc.symm
   subst this
   simp only [aI hj]
   exact (leg_c c.legs[j] j).v
 rw [a2]
 simp only [go_sem,l1,l2]
 refine aF (lX _ _ _).v ?_
 simp only [go_sem,l1,l2]
 refine ⟨fun e1 => ⟨(by unfold I64; omega),fun e2 => ⟨fun e3 => ?_,fun e3 => ?_⟩,fun e2 => ?_⟩,fun e1 => ?_⟩
 · simp only [eO,e1,e3,decide_eq_true e2,Bool.true_and]
 · simp only [eO,e1,e3,decide_eq_true e2,Bool.true_and,Bool.false_and]
 · simp only [eO,e1,decide_eq_false e2,Bool.true_and,Bool.false_and]
 · simp only [eO,e1,Bool.false_and]
theorem iL {c : cH} (h : eO c = true) : 2 ≤ c.stops.length ∧ c.stops.length ≤ 8 ∧ c.legs.length + 1 = c.stops.length ∧ (∀ s ∈ c.stops,s.windows.length ≤ 10 ∧ 0 ≤ s.turn ∧ s.turn ≤ 300 ∧ vA s.windows = true) ∧ ∀ s ∈ c.legs,0 ≤ s.low ∧ s.low ≤ s.high ∧ s.high ≤ 300 := by
 simp only [eO,inB,qX,aEu,xN,Bool.and_eq_true,decide_eq_true_eq,List.all_eq_true] at h
 obtain ⟨h1,h2,h3,h4⟩ := h
 exact ⟨by omega,by omega,by omega,fun s hs => by have := h3 s hs; exact ⟨this.1,this.2.1.1,this.2.1.2,this.2.2⟩,fun s hs => h4 s hs⟩
def mI {α : Type} (p : α → Bool) (l : List α) : Int := match l.findIdx? p with
 | some i => i
 | none => -1
theorem aGZ {α : Type} {p : α → Bool} {l : List α} {j : Nat} (hj : j < l.length) (h1 : ∀ i,i < j → ∀ hi : i < l.length,p l[i] = false) (h2 : p l[j] = true) : mI p l = j := by
 have : l.findIdx? p = some j := List.findIdx?_eq_some_iff_getElem.2 ⟨hj,h2,fun i hi => by simp [h1 i hi (by omega)]⟩
 simp [mI,this]
theorem aCc {α : Type} {p : α → Bool} {l : List α} (h1 : ∀ i (hi : i < l.length),p l[i] = false) : mI p l = -1 := by
 have : l.findIdx? p = none := List.findIdx?_eq_none_iff.2 fun x hx => by
  obtain ⟨i,hi,rfl⟩ := List.getElem_of_mem hx
  exact h1 i hi
 simp [mI,this]
def lP (row : Nat → Bool) (m : Int) : Int := mI (fun (t : Nat) => decide (m ≤ (t : Int)) && row t) (List.range 1441)
theorem aG4 (p : Pl) (row : Nat → Bool) (m : Int) (hp : p.bdd h.length) (hr : ∀ t,t < 1441 → rd w0 h (p.add t) = some (.bool (row t))) (hm : m < 1000000) : bA Try.prog w0 71 [.ptr p,.int .i64 m] h (.int .i64 (lP row m)) h := by
 refine aQ aM aI0 mf71_b mf71_g (qE rfl) (by simp [AV.bdd,AV.bdds]) fun hb ha => aU ?_
 simp only [go_sem,mf71]
 obtain ⟨s,es⟩ : ∃ s : Nat,max 0 m = s := ⟨(max 0 m).toNat,by omega⟩
 rw [es]
 refine cM (S := Nat) (F := fun t => [(0,.ptr p),(5,.int .i64 t)]) (H := fun _ => h ++ []) (meas := fun t => 1441 - t) (Inv := fun t => s ≤ t ∧ ∀ u,s ≤ u → u < t → u < 1441 → row u = false) s ⟨Nat.le_refl _,fun u h1 h2 _ => by omega⟩ rfl (by simp) ?_
 rintro t ⟨h1,h2⟩ ih
 refine aE aM aLi [0,5] L71_0.eq_1 ?_
 by_cases ht : t < 1441
 · have e1 : (t : Int) < 1441 := by omega
   have e2 : ∀ L,rd w0 (h ++ L) (p.add t) = some (.bool (row t)) := fun L => lV (hr t ht)
   simp only [go_sem,e1,e2,ht,Nat.mul_one]
   have nx : row t = false → s ≤ t + 1 ∧ ∀ u,s ≤ u → u < t + 1 → u < 1441 → row u = false := fun e => ⟨by omega,fun u q1 q2 q3 => by
    rcases Nat.lt_or_ge u t with q | q
    · exact h2 u q1 q q3
    · obtain rfl : u = t := by omega
      exact e⟩
   refine ⟨fun e => ?_,fun e => ⟨(by unfold I64; omega),by simpa using ih (t + 1) (nx e) (by omega)⟩⟩
   have : lP row m = t := aGZ (by simpa using ht) (fun i hi hi2 => by
    simp only [List.length_range] at hi2
    rw [List.getElem_range]
    by_cases hs : s ≤ i
    · rw [h2 i hs hi hi2]; simp
    · rw [decide_eq_false (by omega)]; rfl) (by rw [List.getElem_range,e,decide_eq_true (by omega)]; rfl)
   rw [this]
 · have e1 : ¬ (t : Int) < 1441 := by omega
   simp only [go_sem,e1]
   have : lP row m = -1 := aCc fun i hi => by
    simp only [List.length_range] at hi
    rw [List.getElem_range]
    by_cases hs : s ≤ i
    · rw [h2 i hs (by omega) hi]; simp
    · rw [decide_eq_false (by omega)]; rfl
   rw [this]
theorem aG5 {row : Nat → Bool} {m : Int} : -1 ≤ lP row m ∧ lP row m < 1441 := by
 unfold lP mI
 split
 · rename_i i e
   obtain ⟨hi,_⟩ := List.findIdx?_eq_some_iff_getElem.1 e
   simp at hi; omega
 · omega
def iP (n : Nat) (g : Nat → Nat → Bool) : List AV := (List.range (n * 1441)).map fun k => .bool (g (k / 1441) (k % 1441))
theorem nL {n : Nat} {g : Nat → Nat → Bool} : (iP n g).length = n * 1441 := by simp [iP]
theorem mE {n : Nat} {g : Nat → Nat → Bool} {i t : Nat} (hi : i < n) (ht : t < 1441) : (iP n g)[i * 1441 + t]? = some (.bool (g i t)) := by
 have hlt : i * 1441 + t < n * 1441 := by
  have : (i + 1) * 1441 ≤ n * 1441 := Nat.mul_le_mul_right _ hi
  omega
 rw [iP,List.getElem?_map,List.getElem?_range hlt]
 have e1 : (i * 1441 + t) / 1441 = i := by omega
 have e2 : (i * 1441 + t) % 1441 = t := by omega
 simp only [Option.map_some,e1,e2]
def aBL (g : Nat → Nat → Bool) (i t : Nat) (b : Bool) : Nat → Nat → Bool := fun i' t' => if i' = i ∧ t' = t then b else g i' t'
theorem aFl {n : Nat} {g : Nat → Nat → Bool} {i t : Nat} {b : Bool} (hi : i < n) (ht : t < 1441) : cB (iP n g) (i * 1441 + t) [.bool b] = iP n (aBL g i t b) := by
 have hlt : i * 1441 + t < n * 1441 := by
  have : (i + 1) * 1441 ≤ n * 1441 := Nat.mul_le_mul_right _ hi
  omega
 have hs : cB (iP n g) (i * 1441 + t) [.bool b] = (iP n g).set (i * 1441 + t) (.bool b) := by
  rw [List.set_eq_take_append_cons_drop,if_pos (by rw [nL]; exact hlt)]
  simp [cB]
 rw [hs]
 refine List.ext_getElem? fun k => ?_
 rw [List.getElem?_set]
 by_cases hk : i * 1441 + t = k
 · subst hk
   rw [if_pos rfl,if_pos (by rw [nL]; exact hlt),mE hi ht]
   simp [aBL]
 · rw [if_neg hk]
   by_cases hkn : k < n * 1441
   · simp only [iP,List.getElem?_map,List.getElem?_range hkn,Option.map_some,aBL]
     rw [if_neg (by omega)]
   · simp only [iP,List.getElem?_map]
     rw [List.getElem?_eq_none (by simpa using hkn)]; rfl
theorem aEc {n : Nat} : fL (List.replicate 1441 (.bool false)) n = iP n fun _ _ => false := by
 have h1 : ∀ n,fL (List.replicate 1441 (AV.bool false)) n = List.replicate (n * 1441) (.bool false) := fun n => by
  induction n with
  | zero => rfl
  | succ n ih => rw [fL,ih,Nat.succ_mul,Nat.add_comm,List.replicate_append_replicate]
 rw [h1,iP]
 refine List.ext_getElem? fun k => ?_
 by_cases hk : k < n * 1441
 · rw [List.getElem?_map,List.getElem?_range hk,List.getElem?_replicate,if_pos hk]; rfl
 · rw [List.getElem?_eq_none (by simpa using hk),List.getElem?_eq_none (by simpa using hk)]
def rV (c : cH) (i : Nat) (row : Nat → Bool) (t : Int) : Bool :=
 hY (c.stops.getD (i + 1) ⟨[],0⟩).windows t && (decide (i + 1 = c.legs.length) || decide (0 ≤ lP row (t + (c.stops.getD (i + 1) ⟨[],0⟩).turn)))
def lF (go : Int → Bool) (m : Int) : Nat → Int → Int
 | 0,_ => -1
 | k + 1,d => if go (m + d) then lF go m k (d + 1) else d
def pE (c : cH) (i : Nat) : bM := c.legs.getD i ⟨0,0⟩
def iV (c : cH) (i : Nat) (row : Nat → Bool) (m : Int) : Int := lF (rV c i row) m ((pE c i).high - (pE c i).low + 1).toNat (pE c i).low
theorem goes_c (c : cH) (v : iX) (i ic ik is n ib : Nat) (g : Nat → Nat → Bool) (t : Int) (hR : gK w0 h c v) (hB : eO c = true) (hi : i < c.legs.length) (hn : n = c.legs.length) (h1 : h[ic]? = some (some (.row (cX v)))) (h2 : h[is]? = some (some (.row [.int .i64 i])))
 (h3 : h[ik]? = some (some (.row [.sl (.own ib 0) n 1441 true]))) (h4 : h[ib]? = some (some (.row (iP n g)))) (ht : -10000 ≤ t ∧ t < 10000) : bA Try.prog w0 107 [.int .i64 t,.ptr (.own ic 0),.ptr (.own is 0),.ptr (.own ik 0)] h (.bool (rV c i (g (i + 1)) t)) h := by
 refine aQ aM aGD aKC aKB (qE rfl) (by simp [AV.bdd,AV.bdds]) fun hb ha => aU ?_
 have b1 := xL h1
 have b2 := xL h2
 have b3 := xL h3
 have bs := iL hB
 have hi1 : i + 1 < c.stops.length := by omega
 obtain ⟨p,x,p1,p2,p3⟩ := hR.stop hi1
 obtain ⟨s,es⟩ : ∃ s,c.stops[i + 1] = s := ⟨_,rfl⟩
 have gs : c.stops.getD (i + 1) ⟨[],0⟩ = s := by rw [aI hi1,es]
 have hs := bs.2.2.2.1 s (es ▸ qG hi1)
 rw [es] at p2 p3
 have d1 : bU (.int .i64 ((i : Int) + 1)) = some (i + 1) := by rw [show (i : Int) + 1 = ((i + 1 : Nat) : Int) by omega]; exact kQ
 have l2 := hR.legs.use.1
 simp only [List.length_map] at l2
 have hll := hR.ll
 have ibl := aN h4
 have o1 := p3.one.1
 simp only [go_sem,mf107,b1,b2,d1,p1,p2,o1]
 refine ⟨(by unfold I64; omega),?_⟩
 refine aF (aB7 s x t p3.app (by omega)).v ?_
 simp only [go_sem,b1,b2,b3,l2]
 have hd : (decide (i + 1 = c.legs.length)) = decide ((i : Int) + 1 = c.legs.length) := by
  refine Bool.eq_iff_iff.2 ?_
  rw [decide_eq_true_eq,decide_eq_true_eq]; omega
 refine ⟨fun e1 => ⟨(by unfold I64; omega),fun e2 => ⟨(by unfold I64; omega),?_⟩,fun e2 => ?_⟩,fun e1 => ?_⟩
 · have hin : i + 1 < n := by omega
   have i1 : bT 1441 (.sl (.own ib 0) n 1441 true) (some (i + 1)) = some (.ptr (.own ib ((i + 1) * 1441))) := by simp [bT,eQ,hin,Pl.add]
   have d2 : (if 0 ≤ (i : Int) + 1 then some ((i : Int) + 1).toNat else none) = some (i + 1) := by rw [if_pos (by omega)]; congr 1
   simp only [go_sem,d2,i1]
   have ibl' := aN h4
   refine ⟨(by unfold I64; omega),?_⟩
   refine aF (aG4 (.own ib ((i + 1) * 1441)) (g (i + 1)) (t + s.turn) (by simp [Pl.bdd]; omega) (fun u hu => ?_) (by omega)).v ?_
   · simp only [Pl.add,rd]
     rw [aA h4]
     simp only [Nat.zero_add]
     exact mE hin hu
   · simp only [go_sem]
     simp only [rV,gs,e1,hd,decide_eq_false e2,Bool.true_and,Bool.false_or]
 · simp only [rV,gs,e1,hd,decide_eq_true e2,Bool.true_and,Bool.true_or]
 · simp only [rV,gs,e1,Bool.false_and]
theorem aDd (c : cH) (v : iX) (i n ib : Nat) (g : Nat → Nat → Bool) (m : Int) (hR : gK w0 h c v) (hB : eO c = true) (hi : i < c.legs.length) (hn : n = c.legs.length) (h4 : h[ib]? = some (some (.row (iP n g)))) (hm : 0 ≤ m ∧ m ≤ 1440) :
 bA Try.prog w0 73 [.agg (cX v),.sl (.own ib 0) n 1441 true,.int .i64 i,.int .i64 m] h (.int .i64 (iV c i (g (i + 1)) m)) h := by
 refine aQ aM aIY mf73_b mf73_g (qE rfl) (by simp [AV.bdd,AV.bdds]) fun hb ha => aU ?_
 have bs := iL hB
 obtain ⟨p,p1,p2⟩ := hR.leg hi
 obtain ⟨s,es⟩ : ∃ s,c.legs[i] = s := ⟨_,rfl⟩
 have gs : pE c i = s := by rw [pE,aI hi,es]
 have hs := bs.2.2.2.2 s (es ▸ qG hi)
 rw [es] at p2
 have o1 := hR.stops.one.1
 have o2 := hR.legs.one.1
 have l1 : ∀ L,rd w0 (h ++ L) (p.add 0) = some (.int .i64 s.low) := fun L => cC (p2 L) rfl
 have l2 : ∀ L,rd w0 (h ++ L) (p.add 1) = some (.int .i64 s.high) := fun L => cC (p2 L) rfl
 have ibl := aN h4
 simp only [go_sem,mf73,o1,o2,p1,l1]
 obtain ⟨go,ego⟩ : ∃ go,go = rV c i (g (i + 1)) := ⟨_,rfl⟩
 have hF : iV c i (g (i + 1)) m = lF go m (s.high - s.low + 1).toNat s.low := by rw [iV,gs,ego]
 rw [hF]
 refine cM (S := Int) (F := fun d => [(3,.int .i64 m),(4,.ptr (.own h.length 0)),(6,.ptr (.own (h.length + 2) 0)),(9,.fn (.func 107) [] [.ptr (.own h.length 0),.ptr (.own (h.length + 2) 0),.ptr (.own (h.length + 1) 0)]),(10,.int .i64 d)])
  (H := fun _ => h ++ [some (.row [v.sv,v.lv]),some (.row [.sl (.own ib 0) n 1441 true]),some (.row [.int .i64 i])]) (meas := fun d => (s.high - d + 1).toNat)
  (Inv := fun d => s.low ≤ d ∧ lF go m (s.high - d + 1).toNat d = lF go m (s.high - s.low + 1).toNat s.low) s.low ⟨Int.le_refl _,rfl⟩ rfl rfl ?_
 rintro d ⟨h1,h2⟩ ih
 refine aE aM aLh [3,4,6,9,10] L73_0.eq_1 ?_
 simp only [go_sem,p1,l2]
 refine ⟨fun e => ?_,fun e => ?_⟩
 · obtain ⟨k,ek⟩ : ∃ k,(s.high - d + 1).toNat = k + 1 := ⟨(s.high - d + 1).toNat - 1,by omega⟩
   have ek2 : (s.high - (d + 1) + 1).toNat = k := by omega
   refine ⟨(by unfold I64; omega),?_⟩
   have hg := goes_c (w0 := w0) (h := h ++ [some (.row [v.sv,v.lv]),some (.row [.sl (.own ib 0) n 1441 true]),some (.row [.int .i64 i])]) c v i h.length (h.length + 1) (h.length + 2) n ib g (m + d) hR.app hB hi hn (by simp [cX]) (by simp) (by simp) (aA h4) (by omega)
   rw [← ego] at hg
   refine aF (hg.vc (first := []) (capt := [.ptr (.own h.length 0),.ptr (.own (h.length + 2) 0),.ptr (.own (h.length + 1) 0)])) ?_
   simp only [go_sem]
   refine ⟨fun e2 => ?_,fun e2 => ?_⟩
   · rw [← h2,ek,lF,e2]; rfl
   · refine ⟨(by unfold I64; omega),ih (d + 1) ⟨by omega,?_⟩ (by omega)⟩
     rw [ek2,← h2,ek,lF,if_pos e2]
 · have ek : (s.high - d + 1).toNat = 0 := by omega
   rw [← h2,ek]; rfl
def pI (c : cH) (i : Nat) : uD := c.stops.getD i ⟨[],0⟩
def gdr (c : cH) : Nat → Nat → Bool
 | 0,_ => false
 | k + 1,t => hY (pI c (c.legs.length - (k + 1))).windows t && decide (iV c (c.legs.length - (k + 1)) (gdr c k) t < 0)
def cD (c : cH) (i t : Nat) : Bool := gdr c (c.legs.length - i) t
theorem aAV {r r' : Nat → Bool} {m : Int} (h : ∀ t,t < 1441 → r t = r' t) : lP r m = lP r' m := by
 unfold lP mI
 have : (List.range 1441).findIdx? (fun (t : Nat) => decide (m ≤ (t : Int)) && r t) = (List.range 1441).findIdx? (fun (t : Nat) => decide (m ≤ (t : Int)) && r' t) := by
  have key : ∀ l : List Nat,(∀ t ∈ l,t < 1441) → l.findIdx? (fun (t : Nat) => decide (m ≤ (t : Int)) && r t) = l.findIdx? (fun (t : Nat) => decide (m ≤ (t : Int)) && r' t) := fun l => by
   induction l with
   | nil => intro _; rfl
   | cons a l ih =>
    intro hl
    rw [List.findIdx?_cons,List.findIdx?_cons,h a (hl a List.mem_cons_self),ih fun t ht => hl t (List.mem_cons_of_mem _ ht)]
  exact key _ fun t ht => List.mem_range.1 ht
 rw [this]
theorem zV {c : cH} {i : Nat} {r r' : Nat → Bool} {m : Int} (h : i + 1 < c.legs.length → ∀ t,t < 1441 → r t = r' t) (hi : i < c.legs.length) : iV c i r m = iV c i r' m := by
 have : rV c i r = rV c i r' := by
  funext t
  unfold rV
  by_cases e : i + 1 = c.legs.length
  · simp [e]
  · rw [aAV (h (by omega))]
 rw [iV,iV,this]
theorem aBO {n : Nat} {g g' : Nat → Nat → Bool} (h : ∀ i t,i < n → t < 1441 → g i t = g' i t) : iP n g = iP n g' := by
 unfold iP
 refine List.map_congr_left fun k hk => ?_
 rw [List.mem_range] at hk
 rw [h _ _ (Nat.div_lt_of_lt_mul (by omega)) (Nat.mod_lt _ (by omega))]
theorem aG2 {c : cH} {i t : Nat} (hi : i < c.legs.length) : cD c i t = (hY (pI c i).windows t && decide (iV c i (cD c (i + 1)) t < 0)) := by
 obtain ⟨k,hk⟩ : ∃ k,c.legs.length - i = k + 1 := ⟨c.legs.length - i - 1,by omega⟩
 have e1 : c.legs.length - (k + 1) = i := by omega
 have e2 : gdr c k = cD c (i + 1) := by funext u; rw [cD,show c.legs.length - (i + 1) = k by omega]
 rw [cD,hk,gdr,e1,e2]
theorem aEb {n : Nat} {g : Nat → Nat → Bool} {i t : Nat} {b : Bool} (hi : i < n) (ht : t < 1441) : (iP n g).take (i * 1441 + t) ++ .bool b :: (iP n g).drop (i * 1441 + (t + 1)) = iP n (aBL g i t b) := by
 rw [← aFl hi ht]; simp [cB,Nat.add_assoc]
def GoodK (w0 : World) (h : Heap) (c : cH) (y : AV) (h' : Heap) : Prop := aB h h' ∧ ∃ ib,y = .sl (.own ib 0) c.legs.length 1441 true ∧ h'[ib]? = some (some (.row (iP c.legs.length (cD c))))
set_option maxHeartbeats 1000000 in
theorem aCd (c : cH) (v : iX) (hR : gK w0 h c v) (hB : eO c = true) : ACall Try.prog w0 63 [.agg (cX v)] h (GoodK w0 h c) := by
 refine aY aM aI6 mf63_b mf63_g (qE rfl) fun hb ha => aU ?_
 have bs := iL hB
 have o1 := hR.stops.one.1
 have o2 := hR.legs.one.1
 have l2 := hR.legs.use.1
 simp only [List.length_map] at l2
 obtain ⟨n,en⟩ : ∃ n,c.legs.length = n := ⟨_,rfl⟩
 rw [en] at l2
 have hb1 : n ≤ n ∧ n * 1442 ≤ 1099511627776 := ⟨Nat.le_refl _,by omega⟩
 simp only [go_sem,mf63,o1,o2,l2,hb1,aEc,beq_self_eq_true]
 refine ⟨(by unfold I64; omega),?_⟩
 refine cM (S := Nat × (Nat → Nat → Bool)) (F := fun s => [(1,.ptr (.own h.length 0)),(3,.sl (.own (h.length + 1) 0) n 1441 true),(4,.int .i64 ((n : Int) - 1 - s.1))])
  (H := fun s => h ++ [some (.row [v.sv,v.lv]),some (.row (iP n s.2))]) (meas := fun s => n - s.1)
  (Inv := fun s => s.1 ≤ n ∧ ∀ i,i < n → n - s.1 ≤ i → ∀ t,t < 1441 → s.2 i t = cD c i t) (0,fun _ _ => false) ⟨Nat.zero_le _,fun i h1 h2 => by simp only at h2; omega⟩ (by simp) rfl ?_
 rintro ⟨k,g⟩ ⟨hk,hg⟩ ih
 simp only at hk hg ih
 refine aE aM aLk [1,3,4] L63_1.eq_1 ?_
 by_cases hkn : k < n
 · obtain ⟨i,ei⟩ : ∃ i : Nat,(n : Int) - 1 - k = i := ⟨n - 1 - k,by omega⟩
   have e1 : (0 : Int) ≤ (i : Int) := by omega
   simp only [ei]
   simp only [go_sem,e1]
   have hin : i < n := by omega
   refine cM (S := Nat × (Nat → Nat → Bool)) (F := fun s => [(1,.ptr (.own h.length 0)),(3,.sl (.own (h.length + 1) 0) n 1441 true),(4,.int .i64 i),(18,.int .i64 s.1)])
    (H := fun s => h ++ [some (.row [v.sv,v.lv]),some (.row (iP n s.2))]) (meas := fun s => 1441 - s.1)
    (Inv := fun s => s.1 ≤ 1441 ∧ (∀ j,j < n → i < j → ∀ t,t < 1441 → s.2 j t = cD c j t) ∧ ∀ t,t < s.1 → s.2 i t = cD c i t) (0,g) ⟨Nat.zero_le _,fun j h1 h2 => hg j h1 (by omega),fun t ht => absurd ht (by simp)⟩ rfl rfl ?_
   rintro ⟨t,f⟩ ⟨ht,hf1,hf2⟩ ih2
   simp only at ht hf1 hf2 ih2
   refine aE aM aLl [1,3,4,18] L63_0.eq_1 ?_
   by_cases htn : t < 1441
   · have e2 : (t : Int) < 1441 := by omega
     obtain ⟨p,x,p1,p2,p3⟩ := hR.stop (j := i) (by omega)
     obtain ⟨s,es⟩ : ∃ s,c.stops[i]'(by omega) = s := ⟨_,rfl⟩
     rw [es] at p2 p3
     have gs : pI c i = s := by rw [pI,aI (by omega),es]
     have hs := bs.2.2.2.1 s (es ▸ qG (by omega))
     have o3 := p3.one.1
     have i1 : bT 1441 (.sl (.own (h.length + 1) 0) n 1441 true) (some i) = some (.ptr (.own (h.length + 1) (i * 1441))) := by simp [bT,eQ,hin,Pl.add]
     have hlt : i * 1441 + t + 1 ≤ n * 1441 := by
      have : (i + 1) * 1441 ≤ n * 1441 := Nat.mul_le_mul_right _ hin
      omega
     have hlt' : i * 1441 + (t + 1) ≤ n * 1441 := by rw [← Nat.add_assoc]; exact hlt
     have hI : I64 ((t : Int) + 1) := (by unfold I64; omega)
     simp only [go_sem,e2]
     refine jT aM [0,1,2,3,4,5,6,7,8,18,9,10,11,12,13,14,15,16,17,19,20] [o_ 21 (m_ 3),o_ 22 (m_ 4),o_ 23 (m_ 5),o_ 24 (.addr (.t 1) 0),o_ 25 (l_ 24),o_ 26 (m_ 4),o_ 27 (.idxs 2 (.t 25) (.t 26)),o_ 28 (.load (.t 27) (some 2)),o_ 29 (m_ 5),o_ 39 (.idxs 1441 (.t 21) (.t 22)),.call (some 30) none (f_ 72) [(.t 28),(.t 29)],o_ 31 (m_ 30),q_ 32 31 true (.load (.t 1) (some 2)),q_ 33 31 true (m_ 3),q_ 34 31 true (m_ 4),q_ 35 31 true (m_ 5),.call (some 36) (some (31,true)) (f_ 73) [(.t 32),(.t 33),(.t 34),(.t 35)],q_ 37 31 true (.bin .lss (.t 36) (i_ 0)),o_ 38 (.pick (.t 31) (.t 37) (.k (.bool false))),o_ 40 (.idxa 1441 1 (.t 39) (.t 23)),.op none none (.store (.t 40) (.t 38) 1)] [] rfl rfl (by kernel_rfl) ?_
     simp only [go_sem,e2,p1,p2,hin]
     refine aF (aB7 s x t p3.app (by omega)).v ?_
     simp only [go_sem,i1,htn,Nat.mul_one,nL,hlt]
     have fc := aDd (w0 := w0) (h := h ++ [some (.row [v.sv,v.lv]),some (.row (iP n f))]) c v i n (h.length + 1) f t hR.app hB (by omega) en.symm (by simp) (by omega)
     have hfd : iV c i (f (i + 1)) t = iV c i (cD c (i + 1)) t := zV (fun h1 u hu => hf1 (i + 1) (by omega) (by omega) u hu) (by omega)
     rw [hfd] at fc
     have hgt : cD c i t = (hY s.windows t && decide (iV c i (cD c (i + 1)) t < 0)) := by rw [aG2 (by omega),gs]
     have next : ∀ b,cD c i t = b → lp Try.prog w0 none 43 (List.length h) (resK w0 [RV.t 2] (GoodK w0 h c)) L63_0 _ [(1,.ptr (.own h.length 0)),(3,.sl (.own (h.length + 1) 0) n 1441 true),(4,.int .i64 i),(18,.int .i64 ((t : Int) + 1))]
      (h ++ [some (.row [v.sv,v.lv]),some (.row ((iP n f).take (i * 1441 + t) ++ .bool b :: (iP n f).drop (i * 1441 + (t + 1))))]) := fun b hbb => by
      have := ih2 (t + 1,aBL f i t b) ⟨by simp only; omega,fun j h1 h2 u hu => by simp only [aBL]; rw [if_neg (by omega)]; exact hf1 j h1 h2 u hu,fun u hu => by
       simp only [aBL]
       by_cases e : u = t
       · subst e; rw [if_pos (by simp),hbb]
       · rw [if_neg (by omega)]; exact hf2 u (by simp only at hu; omega)⟩ (by simp only; omega)
      rw [aEb hin htn]
      simpa using this
     refine ⟨fun c1 => ?_,fun c1 => ?_⟩
     · refine aF fc.v ?_
       simp only [go_sem,i1,htn,Nat.mul_one,nL,hlt]
       exact ⟨hlt',hI,next _ (by rw [hgt,c1]; rfl)⟩
     · exact ⟨hlt',hI,next _ (by rw [hgt,c1]; rfl)⟩
   · have e2 : ¬ (t : Int) < 1441 := by omega
     simp only [go_sem,e2]
     have := ih (k + 1,f) ⟨by simp only; omega,fun j h1 h2 u hu => by
      rcases Nat.lt_or_ge i j with q | q
      · exact hf1 j h1 q u hu
      · obtain rfl : j = i := by simp only at h2; omega
        exact hf2 u (by omega)⟩ (by simp only; omega)
     refine ⟨(by unfold I64; omega),?_⟩
     rw [show (n : Int) - 1 - ((k + 1 : Nat) : Int) = (i : Int) - 1 by omega] at this
     exact this
 · have e1 : ¬ (0 : Int) ≤ (n : Int) - 1 - k := by omega
   simp only [go_sem,e1]
   refine ⟨aB.refl.app,h.length + 1,by rw [en],?_⟩
   have : iP n g = iP c.legs.length (cD c) := by rw [en]; exact aBO fun i t hi ht => hg i hi (by omega) t ht
   rw [← this]; simp
theorem Gro.put {H : Heap} {es n : Nat} {ov : AV} {vs : List AV} (g : Gro h H es n ov vs) (hn : n ≠ 0) : ∃ io,h.length ≤ io ∧ ov = .sl (.own io 0) n es false ∧ H[io]? = some (some (.row vs)) ∧ vs.length = n * es ∧ ∀ vs' : List AV,vs'.length = vs.length → Gro h (H.set io (some (.row vs'))) es n ov vs' := by
 rcases g.own with ⟨h1,_⟩ | ⟨io,h1,h2,h3,h4,h5⟩
 · exact absurd h1 hn
 · refine ⟨io,h1,h3,h4,h5,fun vs' hl => ⟨⟨by rw [List.length_set]; exact g.sub.1,fun i b e => ?_⟩,.inr ⟨io,h1,h2,h3,?_,by rw [hl]; exact h5⟩⟩⟩
   · have hi := aN e
     rw [qB (by omega)]
     exact g.sub.2 i b e
   · rw [qF (aN h4)]
def uK (out : List bM) (t : Nat) : List bM := match out.getLast? with
 | some s => if s.high = (t : Int) - 1 then out.dropLast ++ [⟨s.low,t⟩] else out ++ [⟨t,t⟩]
 | none => [⟨t,t⟩]
def spL (t : Nat) (out : List bM) : List Bool → List bM
 | [] => out
 | b :: l => spL (t + 1) (if b then uK out t else out) l
def lT (l : List Bool) : List bM := spL 0 [] l
def gY (l : List bM) : List AV := (l.map bM.c).flatten
theorem tC {l : List bM} {s : bM} : gY (l ++ [s]) = gY l ++ s.c := by simp [gY]
theorem oU {l : List bM} : (gY l).length = l.length * 2 := by
 induction l with
 | nil => rfl
 | cons a l ih => simp only [gY,List.map_cons,List.flatten_cons,List.length_append,List.length_cons] at ih ⊢; rw [ih]; simp [bM.c]; omega
theorem vH {t : Nat} : ∀ {l : List Bool} {out : List bM} {b : Bool},spL t out (l ++ [b]) = if b then uK (spL t out l) (t + l.length) else spL t out l
 | [],out,b => by simp [spL]
 | c :: l,out,b => by
  simp only [List.cons_append,spL,List.length_cons]
  rw [vH,Nat.add_assoc,Nat.add_comm 1]
theorem aIj (l : List Bool) (v : AV) (hv : Sl w0 h 1 v (l.map fun x => [.bool x])) (hn : l.length < 1000000) : ACall Try.prog w0 64 [v] h fun y h' => Gro h h' 2 (lT l).length y (gY (lT l)) := by
 refine aY aM aI5 mf64_b mf64_g (qE rfl) fun hb ha => aU ?_
 obtain ⟨hlen,q,hix,hrow,_⟩ := hv.use
 simp only [List.length_map] at hlen hix
 simp only [go_sem,mf64,hlen]
 rw [List.append_nil]
 refine cM (S := Nat × Heap × AV × List bM) (F := fun s => [(3,s.2.2.1),(6,v),(7,.int .i64 l.length),(8,.int .i64 s.1)]) (H := fun s => s.2.1) (meas := fun s => l.length - s.1)
  (Inv := fun s => s.1 ≤ l.length ∧ s.2.2.2 = spL 0 [] (l.take s.1) ∧ s.2.2.2.length ≤ s.1 ∧ Gro h s.2.1 2 s.2.2.2.length s.2.2.1 (gY s.2.2.2)) (0,h,.nilS,[]) ⟨Nat.zero_le _,rfl,by simp,Gro.nil aB.refl⟩ rfl rfl ?_
 rintro ⟨t,H,ov,out⟩ ⟨ht,ho,hol,g⟩ ih
 simp only at ht ho hol g ih
 refine aE aM aLj [3,6,7,8] L64_0.eq_1 ?_
 by_cases htn : t < l.length
 · have e1 := hix t htn
   have e3 : (t : Int) < l.length := by omega
   have e2 : ∀ L,rd w0 (H ++ L) (q.add t) = some (.bool l[t]) := fun L => by
    have := (g.sub.app (L := L)).rdn (w0 := w0) (hrow t [.bool l[t]] (by simp [htn]))
    rw [Nat.mul_one] at this
    exact vK this rfl
   have e2' := e2 []
   rw [List.append_nil] at e2'
   rw [Nat.mul_one] at e1
   have hnext : spL 0 [] (l.take (t + 1)) = if l[t] then uK out t else out := by
    rw [List.take_add_one,qA htn,Option.toList,vH,← ho,List.length_take,Nat.zero_add,Nat.min_eq_left (by omega)]
   simp only [go_sem,e1,e2,e2',e3]
   have hll : fN ov = some (.int .i64 out.length) := by
    rcases g.own with ⟨h1,h2,h3⟩ | ⟨io,h1,h2,h3,_⟩
    · rw [h2,h1]; rfl
    · rw [h3]; rfl
   have happ : l[t] = true → (∀ s init,out = init ++ [s] → s.high ≠ (t : Int) - 1) → ∀ G,dH w0 (H ++ [some (.row [.int .i64 (t : Int),.int .i64 (t : Int)])]) 2 16 ov (.sl (.own H.length 0) 1 2 true) = some (.sl (.own (H.length + 1) 0) (out.length + 1) 2 false,G) → Gro h G 2 (out.length + 1) (.sl (.own (H.length + 1) 0) (out.length + 1) 2 false) (gY out ++ [.int .i64 (t : Int),.int .i64 (t : Int)]) →
    lp Try.prog w0 none 47 (List.length h) (resK w0 [RV.t 2] fun y h' => Gro h h' 2 (lT l).length y (gY (lT l))) L64_0 _ [(3,.sl (.own (H.length + 1) 0) (out.length + 1) 2 false),(6,v),(7,.int .i64 l.length),(8,.int .i64 ((t : Int) + 1))] G := fun e hne G _ gG => by
    have hadd : uK out t = out ++ [⟨t,t⟩] := by
     unfold uK
     split
     · rename_i s hs
       obtain ⟨init,rfl⟩ : ∃ init,out = init ++ [s] := by
        have hne' : out ≠ [] := by rintro rfl; simp at hs
        refine ⟨out.dropLast,?_⟩
        rw [List.getLast?_eq_some_getLast hne'] at hs
        cases hs; exact (List.dropLast_concat_getLast hne').symm
       rw [if_neg (hne s init rfl)]
     · rename_i hs
       rw [List.getLast?_eq_none_iff.1 hs]; rfl
    have := ih (t + 1,G,_,out ++ [⟨t,t⟩]) ⟨by simp only; omega,by simp only; rw [hnext,if_pos e,hadd],by simp; omega,by
     simp only [List.length_append,List.length_cons,List.length_nil,tC]; exact gG⟩ (by simp only; omega)
    simpa using this
   refine ⟨fun e => ?_,fun e => ?_⟩
   · have := ih (t + 1,H,ov,out) ⟨by simp only; omega,by simp only; rw [hnext,e]; rfl,by simp only; omega,g⟩ (by simp only; omega)
     exact ⟨(by unfold I64; omega),by simpa using this⟩
   · obtain ⟨G,eG,gG⟩ := (g.app (L := [some (.row [.int .i64 (t : Int),.int .i64 (t : Int)])])).more (w0 := w0) (b := 16) (k := H.length) (x := [.int .i64 (t : Int),.int .i64 (t : Int)]) (f := true) (by simp) rfl rfl (by omega) (by omega)
     rw [List.length_append,List.length_singleton] at eG gG
     rcases List.eq_nil_or_concat out with rfl | ⟨init,s,rfl⟩
     · have hll0 : fN ov = some (.int .i64 0) := by simpa using hll
       have h1 := happ e (fun s init h => by simp at h) G eG gG
       simp only [List.length_nil,Nat.zero_add] at eG h1
       simp only [go_sem,hll0,eG]
       exact ⟨(by unfold I64; omega),h1⟩
     · rw [List.concat_eq_append] at *
       have hno : (init ++ [s]).length ≠ 0 := by simp
       obtain ⟨io,io1,io2,io3,_,io5⟩ := g.put hno
       obtain ⟨N,eN⟩ : ∃ N,init.length = N := ⟨_,rfl⟩
       have hln : (init ++ [s]).length = N + 1 := by simp [eN]
       have hflat : gY (init ++ [s]) = gY init ++ [.int .i64 s.low,.int .i64 s.high] := tC
       have hfl : (gY init).length = N * 2 := by rw [oU,eN]
       have h1 := fun hne : s.high ≠ (t : Int) - 1 => happ e (fun s' init' h => by
        have := List.append_inj_right' h rfl
        simp only [List.cons.injEq,and_true] at this
        subst this; exact hne) G eG gG
       have hlen2 : (gY (init ++ [s])).length = N * 2 + 1 + 1 := by rw [oU,hln]; omega
       have hrow' : (gY (init ++ [s])).take (N * 2 + 1) ++ .int .i64 (t : Int) :: (gY (init ++ [s])).drop (N * 2 + (1 + 1)) = gY (init ++ [⟨s.low,t⟩]) := by
        rw [hflat,tC,List.take_append,List.take_of_length_le (by omega),hfl,show N * 2 + 1 - N * 2 = 1 by omega,List.drop_eq_nil_of_le (by simp [hfl])]
        simp [bM.c]
       have hadd : s.high = (t : Int) - 1 → uK (init ++ [s]) t = init ++ [⟨s.low,t⟩] := fun e2 => by
        simp [uK,e2]
       have h2 := fun e2 : s.high = (t : Int) - 1 => ih (t + 1,H.set io (some (.row (gY (init ++ [⟨s.low,t⟩])))),ov,init ++ [⟨s.low,t⟩]) ⟨by simp only; omega,by simp only; rw [hnext,if_pos e,hadd e2],by simp only [List.length_append,List.length_singleton] at hol ⊢; omega,by
        have := io5 (gY (init ++ [⟨s.low,t⟩])) (by rw [oU,oU]; simp)
        simpa using this⟩ (by simp only; omega)
       have hll1 : fN ov = some (.int .i64 ((N : Int) + 1)) := by rw [hll,hln]; rfl
       have q1 : (0 : Int) < (N : Int) + 1 := by omega
       have hI : I64 ((N : Int) + 1 - 1) := (by unfold I64; omega)
       have q2 : bU (.int .i64 ((N : Int) + 1 - 1)) = some N := by rw [show (N : Int) + 1 - 1 = (N : Int) by omega]; exact kQ
       have q3 : bT 2 ov (some N) = some (.ptr (.own io (N * 2))) := by rw [io2,hln]; simp [bT,eQ,Pl.add]
       have q4 : (gY (init ++ [s]))[N * 2 + 1]? = some (.int .i64 s.high) := by
        rw [hflat,qI (by omega),hfl,show N * 2 + 1 - N * 2 = 1 by omega]; rfl
       have q5 : ∀ L,rd w0 (H ++ L) (.own io (N * 2 + 1)) = some (.int .i64 s.high) := fun L => by
        simp only [rd]; rw [aA io3]; exact q4
       have q5' := q5 []
       rw [List.append_nil] at q5'
       rw [hln] at eG h1
       simp only [go_sem,hll1,q1,q2,q3,q5,q5',hI]
       refine ⟨(by unfold I64; omega),fun e2 => ?_,fun e2 => ?_⟩
       · have hle : N * 2 + (1 + 1) ≤ (gY (init ++ [s])).length := by omega
         simp only [go_sem,io3,hlen2]
         rw [hrow']
         exact ⟨Nat.le_refl _,(by unfold I64; omega),by simpa using h2 e2⟩
       · simp only [go_sem,eG]
         exact ⟨(by unfold I64; omega),h1 e2⟩
 · have e3 : ¬ (t : Int) < l.length := by omega
   obtain rfl : t = l.length := by omega
   simp only [go_sem,e3]
   rw [List.take_length] at ho
   rw [ho] at g
   exact g
def NS {α : Type} (w0 : World) (h : Heap) (es : Nat) (R : α → List AV → Prop) (v : AV) (l : List α) : Prop :=
 ∃ rows : List (List AV),rows.length = l.length ∧ Sl w0 h es v rows ∧ ∀ (j : Nat) x c,l[j]? = some x → rows[j]? = some c → R x c
section
variable {α : Type} {es : Nat} {R R' : α → List AV → Prop} {v : AV} {l : List α}
theorem NS.mono {H : Heap} (s : NS w0 h es R v l) (t : aB h H) (m : ∀ x c,R x c → R' x c) : NS w0 H es R' v l := by
 obtain ⟨rows,h1,h2,h3⟩ := s
 exact ⟨rows,h1,h2.sub t,fun j x c a b => m _ _ (h3 j x c a b)⟩
theorem NS.len (s : NS w0 h es R v l) : fN v = some (.int .i64 l.length) := by
 obtain ⟨rows,h1,h2,h3⟩ := s
 have := h2.use.1
 rw [h1] at this; exact this
theorem NS.bdd (s : NS w0 h es R v l) {N : Nat} (hN : h.length ≤ N) : v.bdd N := by
 obtain ⟨rows,h1,h2,h3⟩ := s
 exact h2.bdd hN
theorem NS.one (s : NS w0 h es R v l) : Ab.one v = true ∧ cellsOf v = some [v] := by
 obtain ⟨rows,h1,h2,h3⟩ := s
 exact h2.one
theorem NS.at_ (s : NS w0 h es R v l) {j : Nat} (hj : j < l.length) : ∃ (p : Pl) (c : List AV),bT es v (some j) = some (.ptr p) ∧ (∀ L,rdn w0 (h ++ L) p es = some c) ∧ R l[j] c := by
 obtain ⟨rows,h1,h2,h3⟩ := s
 obtain ⟨p,p1,p2⟩ := h2.lt (j := j) (by omega)
 obtain ⟨c,hc⟩ : ∃ c,rows[j]? = some c := ⟨_,qA (by omega)⟩
 exact ⟨p,c,p1,fun L => p2 L c hc,h3 j _ c (qA hj) hc⟩
theorem NS.nil : NS w0 h es R .nilS ([] : List α) := ⟨[],rfl,.inl ⟨rfl,rfl⟩,fun j x c a b => by simp at a⟩
end
def SpR (w0 : World) (h : Heap) (l : List bM) (c : List AV) : Prop := ∃ x,c = [x] ∧ Sl w0 h 2 x (l.map bM.c)
def LS (w0 : World) (h : Heap) (v : AV) (t : List (List bM)) : Prop := NS w0 h 1 (SpR w0 h) v t
theorem SpR.sub {H : Heap} {l : List bM} {c : List AV} (s : SpR w0 h l c) (t : aB h H) : SpR w0 H l c := by
 obtain ⟨x,h1,h2⟩ := s; exact ⟨x,h1,h2.sub t⟩
theorem LS.sub {H : Heap} {v : AV} {t : List (List bM)} (s : LS w0 h v t) (u : aB h H) : LS w0 H v t := NS.mono s u fun _ _ r => r.sub u
theorem LS.at_ {v : AV} {t : List (List bM)} (s : LS w0 h v t) {j : Nat} (hj : j < t.length) : ∃ (p : Pl) (x : AV),bT 1 v (some j) = some (.ptr p) ∧ (∀ L,rd w0 (h ++ L) p = some x) ∧ Sl w0 h 2 x (t[j].map bM.c) := by
 obtain ⟨p,c,p1,p2,x,rfl,p3⟩ := NS.at_ s hj
 exact ⟨p,x,p1,fun L => vK (p2 L) rfl,p3⟩
theorem Gro.gr2 {H : Heap} {es n : Nat} {ov : AV} {vs : List AV} (g : Gro h H es n ov vs) : ∃ io,h.length ≤ io ∧ Gr2 H es n io ov vs := by
 rcases g.own with h1 | ⟨io,h1,h2,h3,h4,h5⟩
 · exact ⟨h.length,Nat.le_refl _,.inl h1⟩
 · exact ⟨io,h1,.inr ⟨h2,h3,h4,h5⟩⟩
theorem Gr2.mask {H : Heap} {es n io i : Nat} {ov : AV} {vs : List AV} (g : Gr2 H es n io ov vs) (hi : i ≠ io) : Gr2 (H.set i none) es n io ov vs := by
 rcases g with h1 | ⟨h1,h2,h3,h4⟩
 · exact .inl h1
 · exact .inr ⟨h1,h2,by rw [qB hi]; exact h3,h4⟩
theorem Gr2.gro {H : Heap} {es n io : Nat} {ov : AV} {vs : List AV} (g : Gr2 H es n io ov vs) : Gro [] H es n ov vs := by
 refine ⟨⟨Nat.zero_le _,fun i b e => by simp at e⟩,?_⟩
 rcases g with h1 | ⟨h1,h2,h3,h4⟩
 · exact .inl h1
 · exact .inr ⟨io,Nat.zero_le _,h1,h2,h3,h4⟩
theorem Gr2.sl {H : Heap} {es n io : Nat} {ov : AV} {rows : List (List AV)} (g : Gr2 H es n io ov rows.flatten) (hr : ∀ c ∈ rows,c.length = es) (hn : n = rows.length) (hes : es ≠ 0) : Sl w0 H es ov rows := g.gro.sl hr hn hes
theorem Gro.masked {H : Heap} {es n j io : Nat} {ov : AV} {vs : List AV} (g : Gro h H es n ov vs) (hio : j ≠ 0 → io < h.length) : ∃ io2,Gr2 (Ab.mk j io H) es n io2 ov vs := by
 obtain ⟨io2,h1,h2⟩ := g.gr2
 refine ⟨io2,?_⟩
 unfold Ab.mk
 split
 · exact h2
 · rename_i hj
   exact h2.mask (by have := hio hj; omega)
structure GN {α : Type} (w0 : World) (K : Heap) (R : Heap → α → List AV → Prop) (H : Heap) (es io : Nat) (ov : AV) (l : List α) : Prop where
 make ::
 sub : aB K (mk l.length io H)
 ex : ∃ rows : List (List AV),rows.length = l.length ∧ Gr2 H es l.length io ov rows.flatten ∧ (∀ c ∈ rows,c.length = es) ∧ ∀ (j : Nat) x c,l[j]? = some x → rows[j]? = some c → R (mk l.length io H) x c
section
variable {α : Type} {R : Heap → α → List AV → Prop}
theorem GN.nil {K H : Heap} {es io : Nat} (s : aB K H) : GN w0 K R H es io .nilS ([] : List α) :=
 ⟨by simpa [mk] using s,[],rfl,.inl ⟨rfl,rfl,rfl⟩,by simp,fun j x c a b => by simp at a⟩
theorem GN.ns {K H : Heap} {es io : Nat} {ov : AV} {l : List α} (g : GN w0 K R H es io ov l) (hm : ∀ {A B : Heap} {x c},aB A B → R A x c → R B x c) (hes : es ≠ 0) : NS w0 H es (R H) ov l := by
 obtain ⟨rows,h1,h2,h3,h4⟩ := g.ex
 exact ⟨rows,h1,h2.sl h3 h1.symm hes,fun j x c a b => hm kZ (h4 j x c a b)⟩
theorem GN.more {K H : Heap} {es io : Nat} {ov : AV} {l : List α} (g : GN w0 K R H es io ov l) {G : Heap} {es' b : Nat} {k : Nat} {f : Bool} {x : α} {c : List AV} (hs : aB (mk l.length io H) (mk l.length io G)) (hown : Gr2 G es l.length io ov ((g.ex.choose).flatten))
 (hm : ∀ {A B : Heap} {x c},aB A B → R A x c → R B x c) (hk : G[k]? = some (some (.row c))) (hc : c.length = es) (ho : c.all one = true) (hx : R (mk l.length io G) x c) (hb : b ≤ 1000000) (hn : l.length ≤ 1000000) :
 ∃ G',dH w0 G es b ov (.sl (.own k 0) 1 es f) = some (.sl (.own G.length 0) (l.length + 1) es false,G') ∧ GN w0 K R G' es G.length (.sl (.own G.length 0) (l.length + 1) es false) (l ++ [x]) ∧ aB (mk l.length io G) (mk (l.length + 1) G.length G') ∧ G'.length = G.length + 1 := by
 obtain ⟨G',e1,e2,e3,e4⟩ := hown.more (w0 := w0) (b := b) (f := f) hk hc ho hb hn
 have hsp := g.ex.choose_spec
 obtain ⟨h1,h2,h3,h4⟩ := hsp
 refine ⟨G',e1,⟨by rw [List.length_append,List.length_singleton]; exact (g.sub.trans hs).trans e3,g.ex.choose ++ [c],by simp [h1],by
  rw [List.length_append,List.length_singleton,List.flatten_append]; simpa using e2,fun d hd => ?_,fun j y d hy hd => ?_⟩,e3,e4⟩
 · rcases List.mem_append.1 hd with hd | hd
   · exact h3 d hd
   · rw [List.mem_singleton.1 hd]; exact hc
 · rw [List.length_append,List.length_singleton]
   have hj := aN hy
   rw [List.length_append,List.length_singleton] at hj
   by_cases hjl : j < l.length
   · rw [qH hjl] at hy
     rw [qH (by rw [h1]; exact hjl)] at hd
     exact hm (hs.trans e3) (h4 j y d hy hd)
   · obtain rfl : j = l.length := by omega
     rw [qI (Nat.le_refl _),Nat.sub_self] at hy
     rw [qI (by rw [h1]; exact Nat.le_refl _),h1,Nat.sub_self] at hd
     simp at hy hd
     subst hy; subst hd
     exact hm e3 hx
theorem GN.sub' {K H G : Heap} {es io : Nat} {ov : AV} {l : List α} (g : GN w0 K R H es io ov l) (s : aB H G) (hm : ∀ {A B : Heap} {x c},aB A B → R A x c → R B x c) : GN w0 K R G es io ov l := by
 obtain ⟨rows,h1,h2,h3,h4⟩ := g.ex
 exact ⟨g.sub.trans (kM s),rows,h1,h2.sub s,h3,fun j x c a b => hm (kM s) (h4 j x c a b)⟩
theorem GN.lt {K H : Heap} {es io : Nat} {ov : AV} {l : List α} (g : GN w0 K R H es io ov l) (h : l.length ≠ 0) : io < H.length := by
 obtain ⟨rows,h1,h2,h3,h4⟩ := g.ex
 rcases h2 with h2 | ⟨_,_,h2,_⟩
 · exact absurd h2.1 h
 · exact aN h2
theorem GN.push {K G : Heap} {es io : Nat} {ov : AV} {l : List α} (g : GN w0 K R G es io ov l) {b : Nat} {k : Nat} {f : Bool} {x : α} {c : List AV}
 (hm : ∀ {A B : Heap} {x c},aB A B → R A x c → R B x c) (hk : G[k]? = some (some (.row c))) (hc : c.length = es) (ho : c.all one = true) (hx : R (mk l.length io G) x c) (hb : b ≤ 1000000) (hn : l.length ≤ 1000000) :
 ∃ G',dH w0 G es b ov (.sl (.own k 0) 1 es f) = some (.sl (.own G.length 0) (l.length + 1) es false,G') ∧ GN w0 K R G' es G.length (.sl (.own G.length 0) (l.length + 1) es false) (l ++ [x]) ∧ aB (mk l.length io G) (mk (l.length + 1) G.length G') ∧ G'.length = G.length + 1 :=
 g.more (es' := 0) aB.refl g.ex.choose_spec.2.1 hm hk hc ho hx hb hn
end
def nI (r : Nat → Bool) : List Bool := (List.range 1441).map r
def pT (r : Nat → Bool) : List AV := (List.range 1441).map fun t => .bool (r t)
theorem aAA {r : Nat → Bool} : (pT r).length = 1441 := by simp [pT]
theorem aFF {r : Nat → Bool} : (pT r).all one = true := by
 rw [List.all_eq_true]; intro x hx
 simp only [pT,List.mem_map] at hx
 obtain ⟨_,_,rfl⟩ := hx; rfl
theorem aEk {r : Nat → Bool} : pT r = ((nI r).map fun x => [AV.bool x]).flatten := by
 simp only [pT,nI,List.map_map]
 generalize List.range 1441 = l
 induction l with
 | nil => rfl
 | cons a l ih => simp only [List.map_cons,List.flatten_cons,ih]; rfl
theorem aIi {ib n i : Nat} {g : Nat → Nat → Bool} (h4 : h[ib]? = some (some (.row (iP n g)))) (hi : i < n) : rdn w0 h (.own ib (i * 1441)) 1441 = some (pT (g i)) := by
 have hle : i * 1441 + 1441 ≤ n * 1441 := by
  have : (i + 1) * 1441 ≤ n * 1441 := Nat.mul_le_mul_right _ hi
  omega
 simp only [rdn,h4,nL,hle,if_true,Option.some.injEq]
 refine List.ext_getElem? fun t => ?_
 by_cases ht : t < 1441
 · rw [List.getElem?_take_of_lt ht,List.getElem?_drop,mE hi ht,pT,List.getElem?_map,List.getElem?_range ht]; rfl
 · rw [List.getElem?_eq_none (by rw [List.length_take]; omega),List.getElem?_eq_none (by rw [aAA]; omega)]
def fY (c : cH) : List (List bM) := (List.range c.legs.length).map fun i => lT (nI (cD c i))
theorem oA (c : cH) : (fY c).length = c.legs.length := by simp [fY]
theorem aA4 {c : cH} {i : Nat} (hi : i < (fY c).length) : (fY c)[i] = lT (nI (cD c i)) := by simp [fY]
def DepK (w0 : World) (h : Heap) (c : cH) (y : AV) (h' : Heap) : Prop := aB h h' ∧ if eO c then ∃ x,y = .tup [x,.int .i64 0] ∧ LS w0 h' x (fY c) else y = .tup [.nilS,.int .i64 2]
theorem aH8 (c : cH) (v : iX) (hR : gK w0 h c v) : ACall Try.prog w0 18 [.agg (cX v)] h (DepK w0 h c) := by
 refine aY aM aJt mf18_b mf18_g (qE rfl) fun hb ha => aU ?_
 have o1 := hR.stops.one.1
 have o2 := hR.legs.one.1
 simp only [go_sem,mf18,o1,o2]
 refine aF (tH c v hR.app).v ?_
 simp only [go_sem]
 refine ⟨fun e1 => ⟨aB.refl.app,by rw [e1]; rfl⟩,fun e1 => ?_⟩
 have bs := iL e1
 refine aR (ACall.vc (first := []) (args := [.agg (cX v)]) (aCd c v hR.app e1)) ?_
 rintro y H1 ⟨hs1,ib,rfl,hib⟩
 obtain ⟨n,en⟩ : ∃ n,c.legs.length = n := ⟨_,rfl⟩
 rw [en] at hib ⊢
 simp only [go_sem]
 refine cM (S := Nat × Heap × Nat × AV) (F := fun s => [(4,s.2.2.2),(11,.sl (.own ib 0) n 1441 true),(12,.int .i64 n),(13,.int .i64 s.1)]) (H := fun s => s.2.1) (meas := fun s => n - s.1)
  (Inv := fun s => s.1 ≤ n ∧ GN w0 H1 (SpR w0) s.2.1 1 s.2.2.1 s.2.2.2 ((fY c).take s.1)) (0,H1,0,.nilS) ⟨Nat.zero_le _,GN.nil aB.refl⟩ rfl rfl ?_
 rintro ⟨j,G,io,ov⟩ ⟨hj,g⟩ ih
 simp only at hj g ih
 have hlt : ((fY c).take j).length = j := by rw [List.length_take,oA]; omega
 refine aE aM aLx [4,11,12,13] L18_0.eq_1 ?_
 by_cases hjn : j < n
 · have e3 : (j : Int) < n := by omega
   have hG : aB H1 G := g.sub.trans kZ
   have hib2 := hG.2 _ _ hib
   have i1 : bT 1441 (.sl (.own ib 0) n 1441 true) (some j) = some (.ptr (.own ib (j * 1441))) := by simp [bT,eQ,hjn,Pl.add]
   have r1 : ∀ L,rdn w0 (G ++ L) (.own ib (j * 1441)) 1441 = some (pT (cD c j)) := fun L => aIi (aA hib2) hjn
   have r1' := r1 []
   rw [List.append_nil] at r1'
   have o3 : (pT (cD c j)).all one = true := aFF
   have o4 : (pT (cD c j)).length = 1441 := aAA
   have o5 : cB (List.replicate 1441 (.bool false)) 0 (pT (cD c j)) = pT (cD c j) := hZ (by rw [o4,List.length_replicate])
   simp only [go_sem,e3,i1,r1,r1',o3,o4,o5,List.length_replicate]
   have hv : Sl w0 (G ++ [some (.row (pT (cD c j)))]) 1 (.sl (.own G.length 0) 1441 1 true) ((nI (cD c j)).map fun x => [AV.bool x]) := by
    have := fH (w0 := w0) (h := G) ((nI (cD c j)).map fun x => [AV.bool x]) (es := 1) true (L := [some (.row (pT (cD c j)))]) 0 (by rw [← aEk]; rfl) (fun c hc => by obtain ⟨x,_,rfl⟩ := List.mem_map.1 hc; rfl)
    have hl : ((nI (cD c j)).map fun x => [AV.bool x]).length = 1441 := by simp [nI]
    rw [hl] at this
    exact this
   have hq : ((1441 : Nat) == 1441) = true := rfl
   simp only [go_sem,o4,hq]
   refine aR (ACall.vc (first := []) (args := [.sl (.own G.length 0) 1441 1 true]) (aIj (nI (cD c j)) _ hv (by simp [nI]))) ?_
   rintro y H2 gS
   have hs2 : aB G H2 := aB.refl.app.trans gS.sub
   have o6 : one y = true ∧ cellsOf y = some [y] := by
    rcases gS.own with ⟨_,h2,_⟩ | ⟨_,_,_,h3,_⟩
    · subst h2; exact ⟨rfl,rfl⟩
    · subst h3; exact ⟨rfl,rfl⟩
   have hx : SpR w0 (mk j io (H2 ++ [some (.row [y])])) (lT (nI (cD c j))) [y] := by
    obtain ⟨io2,gm⟩ := gS.masked (j := j) (io := io) fun hj0 => by
     have := g.lt (by rw [hlt]; exact hj0)
     rw [List.length_append]; omega
    refine ⟨y,rfl,?_⟩
    have := gm.sl (w0 := w0) (rows := (lT (nI (cD c j))).map bM.c) (fun c hc => by obtain ⟨s,_,rfl⟩ := List.mem_map.1 hc; rfl) (by simp) (by omega)
    exact this.sub (kM aB.refl.app)
   have g2 := g.sub' (G := H2 ++ [some (.row [y])]) hs2.app (fun s r => r.sub s)
   obtain ⟨G',e1',g3,_,_⟩ := g2.push (b := 24) (k := H2.length) (f := true) (x := lT (nI (cD c j))) (c := [y]) (fun s r => r.sub s) (by simp) rfl (by simp [o6.1]) (by rw [hlt]; exact hx) (by omega) (by rw [hlt]; omega)
   rw [hlt] at e1' g3
   have hnext : (fY c).take (j + 1) = (fY c).take j ++ [lT (nI (cD c j))] := by
    have hjd : j < (fY c).length := by rw [oA]; omega
    rw [List.take_add_one,qA hjd,aA4 hjd]; rfl
   have := ih (j + 1,G',_,_) ⟨by simp only; omega,by simp only; rw [hnext]; exact g3⟩ (by simp only; omega)
   simp only [go_sem,o6.1,o6.2,e1']
   exact ⟨(by unfold I64; omega),by simpa using this⟩
 · have e3 : ¬ (j : Int) < n := by omega
   obtain rfl : j = n := by omega
   simp only [go_sem,e3]
   have ht : (fY c).take j = fY c := List.take_of_length_le (by rw [oA]; omega)
   rw [ht] at g
   refine ⟨(aB.refl.app.trans hs1).trans (g.sub.trans kZ),?_⟩
   rw [if_pos e1]
   exact ⟨ov,rfl,g.ns (fun s r => r.sub s) (by omega)⟩
theorem aK8 {H : Heap} {es b n io k : Nat} {full f : Bool} {vs x : List AV} (hio : H[io]? = some (some (.row vs))) (hl : vs.length = n * es) (hk : H[k]? = some (some (.row x))) (hx : x.length = es) (ho : x.all one = true) (hb : b ≤ 1000000) (hn : n ≤ 1000000) (hne : n ≠ 0) :
 ∃ G,dH w0 H es b (.sl (.own io 0) n es full) (.sl (.own k 0) 1 es f) = some (.sl (.own H.length 0) (n + 1) es false,G) ∧ G[H.length]? = some (some (.row (vs ++ x))) ∧ aB (H.set io none) (G.set H.length none) ∧ G.length = H.length + 1 := by
 have hsz : (n + 1) * (b + 1) ≤ 2 ^ 40 := Nat.le_trans (Nat.mul_le_mul (show n + 1 ≤ 1000001 by omega) (show b + 1 ≤ 1000001 by omega)) (by decide)
 have r1 : rdn w0 H (.own k 0) (1 * es) = some x := by
  simp only [rdn,hk]; rw [if_pos (by omega),List.drop_zero,List.take_of_length_le (by omega)]
 have r2 : rdn w0 H (.own io 0) (n * es) = some vs := by
  simp only [rdn,hio]; rw [if_pos (by omega),List.drop_zero,List.take_of_length_le (by omega)]
 have hil := aN hio
 cases full with
 | true =>
  refine ⟨H ++ [some (.row (vs ++ x))],?_,by rw [qI (Nat.le_refl _),Nat.sub_self]; rfl,⟨by simp,fun i c e => ?_⟩,by simp⟩
  · simp only [dH,srcOf,nA,if_true,r1,Option.map_some,Option.bind_some]
    rw [if_neg (by omega),if_pos ⟨trivial,hsz,ho⟩,r2]; rfl
  · have hi := aN e
    rw [List.length_set] at hi
    rw [qB (by omega),qH hi]
    exact (aB.msk.2 _ _ e)
 | false =>
  refine ⟨H.set io none ++ [some (.row (vs ++ x))],?_,?_,⟨by simp,fun i c e => ?_⟩,by simp⟩
  · simp only [dH,srcOf,nA,if_true,r1,Option.map_some,Option.bind_some]
    rw [if_neg (by omega),if_pos ⟨trivial,hsz,ho⟩]
    simp [r2]
  · rw [qI (by simp)]; simp
  · have hi := aN e
    rw [List.length_set] at hi
    rw [qB (by omega),qH (by rw [List.length_set]; exact hi)]
    exact e
theorem xR {H1 G : Heap} {io : Nat} {fu : Bool} {out : List Int} (z : Int) (hs : aB H1 (G.set io none)) (hio : G[io]? = some (some (.row (aS out)))) (hne : out ≠ []) (hl : out.length ≤ 1000000) :
 ∃ G2,dH w0 (G ++ [some (.row [.int .i64 z])]) 1 8 (.sl (.own io 0) out.length 1 fu) (.sl (.own G.length 0) 1 1 true) = some (.sl (.own (G.length + 1) 0) (out.length + 1) 1 false,G2) ∧ G2[G.length + 1]? = some (some (.row (aS (out ++ [z])))) ∧ aB H1 (G2.set (G.length + 1) none) := by
 have hlen : out.length ≠ 0 := fun e => hne (List.eq_nil_of_length_eq_zero e)
 obtain ⟨G2,e1,e2,e3,_⟩ := aK8 (w0 := w0) (H := G ++ [some (.row [.int .i64 z])]) (es := 1) (b := 8) (n := out.length) (io := io) (k := G.length) (full := fu) (f := true) (vs := aS out) (x := [.int .i64 z]) (aA hio) (by simp [aS]) (by simp) rfl rfl (by omega) hl hlen
 rw [List.length_append,List.length_singleton] at e1 e2 e3
 refine ⟨G2,e1,by rw [e2,aGX],(hs.trans ?_).trans e3⟩
 rw [jD (aN hio)]; exact aB.refl.app
theorem eP {H : Heap} {es io : Nat} {full : Bool} {rows : List (List AV)} (hi : H[io]? = some (some (.row rows.flatten))) (hr : ∀ c ∈ rows,c.length = es) : Sl w0 H es (.sl (.own io 0) rows.length es full) rows := by
 have hlt := aN hi
 have e : H = H.take io ++ H.drop io := (List.take_append_drop io H).symm
 have hl : (H.take io).length = io := by rw [List.length_take]; omega
 have := fH (w0 := w0) (h := H.take io) rows (es := es) full (L := H.drop io) 0 (by rw [List.getElem?_drop,Nat.add_zero]; exact hi) hr
 rw [← e,hl,Nat.add_zero] at this
 exact this
def tB (c : cH) (legs : List Int) : Bool := (List.range legs.length).all fun j => inB (legs.getD j 0) (pE c j).low (pE c j).high
def xS (c : cH) : Nat → Int → List Int → List Int
 | _,_,[] => []
 | i,m,d :: ds => (m + d) :: (if i + 1 < c.legs.length then (let m2 := lP (cD c (i + 1)) (m + d + (pI c (i + 1)).turn); m2 :: xS c (i + 1) m2 ds) else xS c (i + 1) (m + d) ds)
def aCL (c : cH) (m : Int) (legs : List Int) : List Int := m :: xS c 0 m legs
theorem aG9 (c : cH) (v : iX) (j : Nat) (d : Int) {ib : Nat} (hi : h[ib]? = some (some (.row (cX v)))) (hR : gK w0 h c v) (hj : j < c.legs.length) : bA Try.prog w0 70 [.int .i64 j,.int .i64 d,.ptr (.own ib 0)] h (.bool (inB d (pE c j).low (pE c j).high)) h := by
 refine aQ aM aI1 mf70_b mf70_g (qE rfl) (by simp [AV.bdd,AV.bdds]) fun hb ha => aU ?_
 have b1 := xL hi
 obtain ⟨p,p1,p2⟩ := hR.leg hj
 obtain ⟨s,es⟩ : ∃ s,c.legs[j] = s := ⟨_,rfl⟩
 have gs : pE c j = s := by rw [pE,aI hj,es]
 rw [es] at p2
 have l1 : ∀ L,rd w0 (h ++ L) (p.add 0) = some (.int .i64 s.low) := fun L => cC (p2 L) rfl
 have l2 : ∀ L,rd w0 (h ++ L) (p.add 1) = some (.int .i64 s.high) := fun L => cC (p2 L) rfl
 have b1' := b1 []
 have l1' := l1 []
 have l2' := l2 []
 rw [List.append_nil] at b1' l1' l2'
 simp only [go_sem,mf70,b1,p1,l1,l2,b1',l1',l2']
 refine aF (lX d s.low s.high).v ?_
 simp only [go_sem]
 rw [gs]
 try exact ⟨rfl,[],(List.append_nil h).symm⟩
def aDm (w0 : World) (h : Heap) (c : cH) (m : Int) (legs : List Int) (y : AV) (h' : Heap) : Prop :=
 aB h h' ∧ if (eO c && (inB m 0 1440 && (decide (legs.length = c.legs.length) && tB c legs))) = true then (if cD c 0 m.toNat = true then ∃ x,y = .tup [x,.int .i64 0] ∧ SlI w0 h' x (aCL c m legs) else y = .tup [.nilS,.int .i64 7]) else y = .tup [.nilS,.int .i64 2]
theorem Ride_c (c : cH) (v : iX) (m : Int) (legs : List Int) (lv : AV) (hR : gK w0 h c v) (hl : SlI w0 h lv legs) (hln : legs.length < 1000000) : ACall Try.prog w0 22 [.agg (cX v),.int .i64 m,lv] h (aDm w0 h c m legs) := by
 refine aY aM aJr mf22_b mf22_g (qE rfl) fun hb ha => aU ?_
 have o1 := hR.stops.one.1
 have o2 := hR.legs.one.1
 have l2 := hR.legs.use.1
 have l3 := hl.use.1
 simp only [List.length_map] at l2
 simp only [go_sem,mf22,o1,o2]
 refine aF (tH c v hR.app).v ?_
 simp only [go_sem,l2,l3]
 have fin : ∀ L,aDm w0 h c m legs (.tup [.nilS,.int .i64 2]) (h ++ L) ↔ ¬ (eO c && (inB m 0 1440 && (decide (legs.length = c.legs.length) && tB c legs))) = true := by
  intro L
  unfold aDm
  constructor
  · rintro ⟨_,k⟩ e
    rw [if_pos e] at k
    split at k
    · obtain ⟨x,hx,_⟩ := k; cases hx
    · cases k
  · intro e; rw [if_neg e]; exact ⟨aB.refl.app,rfl⟩
 have no : ∀ L,¬ (eO c && (inB m 0 1440 && (decide (legs.length = c.legs.length) && tB c legs))) = true → aDm w0 h c m legs (.tup [.nilS,.int .i64 2]) (h ++ L) := fun L => (fin L).2
 refine ⟨fun e1 => ?_,fun e1 => no _ (by rw [e1]; simp)⟩
 refine aF (lX _ _ _).v ?_
 simp only [go_sem,l2,l3]
 refine ⟨fun e2 => ?_,fun e2 => no _ (by rw [e2]; simp)⟩
 refine ⟨fun e3 => ?_,fun e3 => no _ (by rw [decide_eq_false (by omega)]; simp)⟩
 have bs := iL e1
 have ha1 : (List.range (legs.map fun z => [AV.int .i64 z]).length).all (fun j => inB (legs.getD j 0) (pE c j).low (pE c j).high) = tB c legs := by rw [List.length_map]; rfl
 refine aF (aDk (legs.map fun z => [AV.int .i64 z]) lv (.fn (.func 70) [] [.ptr (.own h.length 0)]) (fun j => inB (legs.getD j 0) (pE c j).low (pE c j).high) (Sl.app hl) ?_ (by simpa using hln) (fun j x hx _ L => ?_)).v ?_
 · intro r hr
   obtain ⟨z,_,rfl⟩ := List.mem_map.1 hr; rfl
 · have hj : j < legs.length := by have := aN hx; simpa using this
   have : x = .int .i64 legs[j] := by simpa [hj] using hx.symm
   subst this
   rw [aI hj]
   exact (aG9 c v j legs[j] (ib := h.length) (by simp [cX]) hR.app.app (by omega)).vc (first := []) (capt := [.ptr (.own h.length 0)])
 rw [ha1]
 simp only [go_sem]
 refine ⟨fun e4 => no _ (by rw [e4]; simp),fun e4 => ?_⟩
 have hyes : (eO c && (inB m 0 1440 && (decide (legs.length = c.legs.length) && tB c legs))) = true := by rw [e1,e2,e4,decide_eq_true (by omega)]; rfl
 simp only [inB,Bool.and_eq_true,decide_eq_true_eq] at e2
 have hlegs : ∀ j (hj : j < legs.length),0 ≤ legs[j] ∧ legs[j] ≤ 300 := fun j hj => by
  have h1 := (cR.1 e4) j hj
  have hj2 : j < c.legs.length := by omega
  simp only [inB,aI hj,pE,aI hj2,Bool.and_eq_true,decide_eq_true_eq] at h1
  have := bs.2.2.2.2 c.legs[j] (qG hj2)
  omega
 refine aR (ACall.vc (first := []) (args := [.agg (cX v)]) (aCd c v hR.app e1)) ?_
 rintro y H1 ⟨hs1,ib,rfl,hib⟩
 obtain ⟨n,en⟩ : ∃ n,c.legs.length = n := ⟨_,rfl⟩
 rw [en] at hib ⊢
 have hs0 : aB h H1 := aB.refl.app.trans hs1
 have hbx : H1[h.length]? = some (some (.row (cX v))) := hs1.2 _ _ (by simp [cX])
 obtain ⟨mn,emn⟩ : ∃ mn : Nat,m = mn := ⟨m.toNat,by omega⟩
 have hmn : mn < 1441 := by omega
 have i1 : bT 1441 (.sl (.own ib 0) n 1441 true) (some 0) = some (.ptr (.own ib 0)) := by simp [bT,eQ,Pl.add]; omega
 have d1 : bU (.int .i64 m) = some mn := by rw [emn]; exact kQ
 have r1 : ∀ L,rd w0 (H1 ++ L) (.own ib mn) = some (.bool (cD c 0 mn)) := fun L => by
  simp only [rd]
  rw [aA hib]
  have := mE (n := n) (g := cD c) (i := 0) (t := mn) (by omega) hmn
  simpa using this
 have r1' := r1 []
 rw [List.append_nil] at r1'
 have a0 : bU (.int .i64 0) = some 0 := rfl
 simp only [go_sem,i1,d1,r1,r1',hmn,a0,Nat.mul_one]
 refine ⟨fun e5 => ?_,fun e5 => ?_⟩
 · refine ⟨hs0,?_⟩
   rw [if_pos hyes,if_neg (by rw [emn,Int.toNat_natCast,e5]; simp)]
 simp only [go_sem,l3]
 have hln2 : legs.length = n := by omega
 refine cM (S := Nat × Int × Heap × Nat × Bool × List Int) (F := fun s => [(1,.int .i64 s.2.1),(2,lv),(3,.ptr (.own h.length 0)),(8,.sl (.own ib 0) n 1441 true),(9,.sl (.own s.2.2.2.1 0) s.2.2.2.2.2.length 1 s.2.2.2.2.1),(44,lv),(45,.int .i64 legs.length),(46,.int .i64 s.1)])
  (H := fun s => s.2.2.1) (meas := fun s => n - s.1)
  (Inv := fun s => s.1 ≤ n ∧ (s.1 < n → -1 ≤ s.2.1 ∧ s.2.1 ≤ 1440) ∧ aB H1 (s.2.2.1.set s.2.2.2.1 none) ∧ s.2.2.1[s.2.2.2.1]? = some (some (.row (aS s.2.2.2.2.2))) ∧ (s.2.2.2.2.2 ≠ [] ∧ s.2.2.2.2.2.length ≤ 2 * s.1 + 1) ∧ s.2.2.2.2.2 ++ xS c s.1 s.2.1 (legs.drop s.1) = aCL c m legs)
  (0,m,H1 ++ [some (.row [.int .i64 m])],H1.length,true,[m]) ⟨Nat.zero_le _,by simp only; omega,⟨by simp,fun i b e => by
   have hlt := aN e
   simp only
   rw [qB (by omega)]; exact aA e⟩,by simp [aS],by simp,by simp [aCL]⟩ (by simp) rfl ?_
 rintro ⟨i,mm,G,io,fu,out⟩ ⟨hi,hmm,hs,hio,hout,hride⟩ ih
 simp only at hi hmm hs hio hout hride ih
 have hs' : aB H1 G := hs.trans aB.msk
 have hbx' : ∀ L,(G ++ L)[h.length]? = some (some (.row (cX v))) := fun L => aA (hs'.2 _ _ hbx)
 refine aE aM aLw [1,2,3,8,9,44,45,46] L22_0.eq_1 ?_
 by_cases hin : i < n
 · have e6 : (i : Int) < legs.length := by omega
   have hli : i < legs.length := by omega
   have hd := hlegs i hli
   obtain ⟨_,q,q1,q2⟩ := (SlI.use (hl.sub (hs0.trans hs')))
   have q1' := q1 i hli
   have q2' := q2 i hli
   have q2'' := q2' []
   rw [List.append_nil] at q2''
   obtain ⟨G2,a1,a2,a3⟩ := xR (w0 := w0) (fu := fu) (mm + legs[i]) hs hio hout.1 (by omega)
   have a3' : aB H1 G2 := a3.trans aB.msk
   have hbx2 : ∀ L,(G2 ++ L)[h.length]? = some (some (.row (cX v))) := fun L => aA (a3'.2 _ _ hbx)
   have hbx2' := hbx2 []
   rw [List.append_nil] at hbx2'
   have hdrop : legs.drop i = legs[i] :: legs.drop (i + 1) := List.drop_eq_getElem_cons hli
   rw [hdrop,xS] at hride
   simp only [go_sem,e6,q1',q2',q2'',l3,a1]
   refine ⟨(by unfold I64; omega),(by unfold I64; omega),fun e7 => ?_,fun e7 => ?_⟩
   · have hi1 : i + 1 < n := by omega
     obtain ⟨p,x,p1,p2,p3⟩ := (hR.sub (hs0.trans a3')).stop (j := i + 1) (by omega)
     obtain ⟨s,es⟩ : ∃ s,c.stops[i + 1]'(by omega) = s := ⟨_,rfl⟩
     rw [es] at p2 p3
     have gs : pI c (i + 1) = s := by rw [pI,aI (by omega),es]
     have hst := bs.2.2.2.1 s (es ▸ qG (by omega))
     have d2 : (if 0 ≤ (i : Int) + 1 then some ((i : Int) + 1).toNat else none) = some (i + 1) := by rw [if_pos (by omega)]; congr 1
     have i2 : bT 1441 (.sl (.own ib 0) n 1441 true) (some (i + 1)) = some (.ptr (.own ib ((i + 1) * 1441))) := by simp [bT,eQ,hi1,Pl.add]
     have r3 : ∀ L,rd w0 (G2 ++ L) (p.add 1) = some (.int .i64 s.turn) := fun L => cC (p2 L) rfl
     have r3' := r3 []
     rw [List.append_nil] at r3'
     have hib2 := a3'.2 _ _ hib
     simp only [go_sem,d2,i2,hbx2,hbx2',p1,r3,r3']
     refine ⟨(by unfold I64; omega),(by unfold I64; omega),(by unfold I64; omega),?_⟩
     refine aF (aG4 (.own ib ((i + 1) * 1441)) (cD c (i + 1)) (mm + legs[i] + s.turn) (by simp [Pl.bdd]; exact aN hib2) (fun u hu => ?_) (by omega)).v ?_
     · simp only [Pl.add,rd,hib2]
       exact mE hi1 hu
     have hfb := aG5 (row := cD c (i + 1)) (m := mm + legs[i] + s.turn)
     obtain ⟨G3,b1,b2,b3⟩ := xR (w0 := w0) (fu := false) (lP (cD c (i + 1)) (mm + legs[i] + s.turn)) a3 a2 (by simp) (by simp; omega)
     rw [List.length_append,List.length_singleton] at b1
     simp only [go_sem,b1]
     rw [if_pos (by omega),gs] at hride
     have := ih (i + 1,lP (cD c (i + 1)) (mm + legs[i] + s.turn),G3,_,false,out ++ [mm + legs[i]] ++ [lP (cD c (i + 1)) (mm + legs[i] + s.turn)]) ⟨by simp only; omega,by simp only; omega,b3,b2,⟨by simp,by simp; omega⟩,by
      simp only [← hride,List.append_assoc,List.cons_append,List.nil_append]⟩ (by simp only; omega)
     exact ⟨(by unfold I64; omega),by simpa using this⟩
   · rw [if_neg (by omega)] at hride
     have := ih (i + 1,mm + legs[i],G2,_,false,out ++ [mm + legs[i]]) ⟨by simp only; omega,by simp only; omega,a3,a2,⟨by simp,by simp; omega⟩,by
      simp only [← hride,List.append_assoc,List.cons_append,List.nil_append]⟩ (by simp only; omega)
     exact ⟨(by unfold I64; omega),by simpa using this⟩
 · obtain rfl : i = n := by omega
   have e6 : ¬ (i : Int) < legs.length := by omega
   simp only [go_sem,e6]
   rw [List.drop_eq_nil_of_le (by omega)] at hride
   simp only [xS,List.append_nil] at hride
   refine ⟨hs0.trans hs',?_⟩
   rw [if_pos hyes,if_pos (by rw [emn,Int.toNat_natCast,e5]),← hride]
   refine ⟨_,rfl,?_⟩
   have := eP (w0 := w0) (full := fu) (rows := out.map fun z => [AV.int .i64 z]) (by rw [← dL]; exact hio) (es := 1) (fun c hc => by obtain ⟨x,_,rfl⟩ := List.mem_map.1 hc; rfl)
   rw [List.length_map] at this
   exact this
def aAI (c : cH) (i : Nat) (m : Int) : Int := if hY (pI c i).windows m then iV c i (cD c (i + 1)) m else -1
def aHP (w0 : World) (h : Heap) (c : cH) (st m : Int) (y : AV) (h' : Heap) : Prop :=
 aB h h' ∧ y = if (eO c && (inB st 0 ((c.legs.length : Int) - 1) && inB m 0 1440)) = true then (if cD c st.toNat m.toNat then .tup [.int .i64 0,.int .i64 6] else .tup [.int .i64 (aAI c st.toNat m),.int .i64 0]) else .tup [.int .i64 0,.int .i64 2]
theorem Miss_c (c : cH) (v : iX) (st m : Int) (hR : gK w0 h c v) : ACall Try.prog w0 23 [.agg (cX v),.int .i64 st,.int .i64 m] h (aHP w0 h c st m) := by
 refine aY aM aJq mf23_b mf23_g (qE rfl) fun hb ha => aU ?_
 have o1 := hR.stops.one.1
 have o2 := hR.legs.one.1
 have l2 := hR.legs.use.1
 have hll := hR.ll
 simp only [List.length_map] at l2
 simp only [go_sem,mf23,o1,o2]
 refine aF (tH c v hR.app).v ?_
 simp only [go_sem,l2]
 have no : ∀ L,¬ (eO c && (inB st 0 ((c.legs.length : Int) - 1) && inB m 0 1440)) = true → aHP w0 h c st m (.tup [.int .i64 0,.int .i64 2]) (h ++ L) := fun L e => ⟨aB.refl.app,by rw [if_neg e]⟩
 refine ⟨fun e1 => ⟨(by unfold I64; omega),?_⟩,fun e1 => no _ (by rw [e1]; simp)⟩
 refine aF (lX _ _ _).v ?_
 simp only [go_sem]
 refine ⟨fun e2 => ?_,fun e2 => no _ (by rw [e2]; simp)⟩
 refine aF (lX _ _ _).v ?_
 simp only [go_sem]
 refine ⟨fun e3 => no _ (by rw [e3]; simp),fun e3 => ?_⟩
 have hyes : (eO c && (inB st 0 ((c.legs.length : Int) - 1) && inB m 0 1440)) = true := by rw [e1,e2,e3]; rfl
 have bs := iL e1
 simp only [inB,Bool.and_eq_true,decide_eq_true_eq] at e2 e3
 obtain ⟨i,ei⟩ : ∃ i : Nat,st = i := ⟨st.toNat,by omega⟩
 obtain ⟨mn,emn⟩ : ∃ mn : Nat,m = mn := ⟨m.toNat,by omega⟩
 subst ei; subst emn
 refine aR (ACall.vc (first := []) (args := [.agg (cX v)]) (aCd c v hR.app e1)) ?_
 rintro y H1 ⟨hs1,ib,rfl,hib⟩
 obtain ⟨n,en⟩ : ∃ n,c.legs.length = n := ⟨_,rfl⟩
 rw [en] at hib ⊢
 have hin : i < n := by omega
 have hmn : mn < 1441 := by omega
 have hs0 : aB h H1 := aB.refl.app.trans hs1
 have hbx : ∀ L,(H1 ++ L)[h.length]? = some (some (.row (cX v))) := fun L => aA (hs1.2 _ _ (by simp [cX]))
 have hbx' := hbx []
 have i1 : bT 1441 (.sl (.own ib 0) n 1441 true) (some i) = some (.ptr (.own ib (i * 1441))) := by simp [bT,eQ,hin,Pl.add]
 have r1 : ∀ L,rd w0 (H1 ++ L) (.own ib (i * 1441 + mn)) = some (.bool (cD c i mn)) := fun L => by
  simp only [rd]
  rw [aA hib]
  exact mE hin hmn
 have r1' := r1 []
 rw [List.append_nil] at hbx' r1'
 have hR1 := hR.sub hs0
 obtain ⟨p,x,p1,p2,p3⟩ := hR1.stop (j := i) (by omega)
 obtain ⟨s,es⟩ : ∃ s,c.stops[i]'(by omega) = s := ⟨_,rfl⟩
 rw [es] at p2 p3
 have gs : pI c i = s := by rw [pI,aI (by omega),es]
 have hst := bs.2.2.2.1 s (es ▸ qG (by omega))
 have p2' := p2 []
 rw [List.append_nil] at p2'
 simp only [go_sem,i1,r1,r1',hmn,Nat.mul_one]
 refine ⟨fun e5 => ?_,fun e5 => ?_⟩
 · refine ⟨hs0,?_⟩
   rw [if_pos hyes,Int.toNat_natCast,Int.toNat_natCast,if_pos e5]
 simp only [go_sem,hbx,hbx',p1,p2,p2']
 refine aF (aB7 s x mn p3 (by omega)).v ?_
 simp only [go_sem]
 have hmd : ∀ L,∀ z,aAI c i mn = z → aHP w0 h c i mn (.tup [.int .i64 z,.int .i64 0]) (H1 ++ L) := fun L z hz => ⟨hs0.app,by
  rw [if_pos hyes,Int.toNat_natCast,Int.toNat_natCast,if_neg (by rw [e5]; simp),hz]⟩
 refine ⟨fun e6 => ?_,fun e6 => ?_⟩
 · have := hmd [] (-1) (by rw [aAI,gs,e6]; rfl)
   rw [List.append_nil] at this
   exact this
 simp only [go_sem,hbx,hbx']
 refine aF (aDd c v i n ib (cD c) mn hR1 e1 (by omega) en.symm hib (by omega)).v ?_
 simp only [go_sem]
 have := hmd [] (iV c i (cD c (i + 1)) mn) (by rw [aAI,gs,e6]; rfl)
 rw [List.append_nil] at this
 exact this
end Go.Proofs.Ab

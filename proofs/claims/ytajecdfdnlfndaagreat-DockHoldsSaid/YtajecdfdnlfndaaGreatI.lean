/- The own layer under the proofs of this seat, part I: what calls of the program come to on an abstract heap. No condition. -/
import Derived.Test.YtajecdfdnlfndaaGreatG
import Derived.Test.YtajecdfdnlfndaaGreatTab
import Derived.Test.YtajecdfdnlfndaaGreatH
set_option linter.unusedSimpArgs false
set_option linter.unusedVariables false
namespace Go.Proofs.Ab
open Go Go.Proofs
variable {w0 : World} {h : aA}
theorem aC2 (rows : List (List AV)) {es : Nat} (full : Bool) {L : aA} (k : Nat) (hk : L[k]? = some (some (.row rows.flatten))) (hr : ∀ c ∈ rows,c.length = es) : Sl w0 (h ++ L) es (.sl (.own (h.length + k) 0) rows.length es full) rows := by
 have hkl : k < L.length := by
  rcases Nat.lt_or_ge k L.length with a | a
  · exact a
  · rw [List.getElem?_eq_none a] at hk; cases hk
 refine .inr ⟨_,full,⟨es,rfl,dD⟩,by simp [Pl.bdd]; exact hkl,fun j c hc => ?_⟩
 simp only [Pl.add,rdn]
 rw [qI (by omega),Nat.add_sub_cancel_left,hk]
 simp only [Nat.zero_add]
 have hlen : ∀ (rows : List (List AV)),(∀ c ∈ rows,c.length = es) → rows.flatten.length = rows.length * es := fun rows => by
  induction rows with
  | nil => intro _; simp
  | cons x xs ih => intro hx; simp [ih (fun c hc => hx c (by simp [hc])),hx x (by simp),Nat.add_mul]; omega
 have hjl := aE hc
 have key : ∀ (rows : List (List AV)) (j : Nat) c,(∀ c ∈ rows,c.length = es) → rows[j]? = some c → (rows.flatten.drop (j * es)).take es = c := fun rows => by
  induction rows with
  | nil => intro j c _ hc; simp at hc
  | cons x xs ih =>
   intro j c hx hc
   have hxl := hx x (by simp)
   cases j with
   | zero => simp at hc; subst hc; simp [← hxl]
   | succ j =>
    have := ih j c (fun c hc => hx c (by simp [hc])) (by simpa using hc)
    rw [List.flatten_cons,Nat.succ_mul,Nat.add_comm,← hxl,← List.drop_drop,List.drop_left,hxl]; exact this
 rw [if_pos (by rw [hlen rows hr]; calc j * es + es = (j + 1) * es := by rw [Nat.add_mul]; omega
                                        _ ≤ rows.length * es := Nat.mul_le_mul_right _ hjl),key rows j c hr hc]
theorem aI {α : Type} {l : List α} {i : Nat} {x : α} (e : l[i]? = some x) : i < l.length := (List.getElem?_eq_some_iff.1 e).1
theorem Sl.lt {es : Nat} {v : AV} {rows : List (List AV)} (s : Sl w0 h es v rows) {j : Nat} (hj : j < rows.length) : ∃ p : Pl,eQ es v (some j) = some (.ptr p) ∧ ∀ L c,rows[j]? = some c → rdn w0 (h ++ L) p es = some c := by
 obtain ⟨_,p,h1,h2,_⟩ := s.use
 exact ⟨_,h1 j hj,fun L c hc => dU (h2 j c hc)⟩
def SlI (w0 : World) (h : aA) (v : AV) (l : List Int) : Prop := Sl w0 h 1 v (l.map fun z => [.int .i64 z])
theorem SlI.use {v : AV} {l : List Int} (s : SlI w0 h v l) : gJ v = some (.int .i64 l.length) ∧ ∃ q : Pl,(∀ j,j < l.length → eQ 1 v (some j) = some (.ptr (q.add j))) ∧ ∀ j (hj : j < l.length) L,rd w0 (h ++ L) (q.add j) = some (.int .i64 l[j]) := by
 obtain ⟨ln,q,ix,row,_⟩ := Sl.use s
 simp only [List.length_map,Nat.mul_one] at ln ix row
 refine ⟨ln,q,ix,fun j hj L => ?_⟩
 have := pT (row j [.int .i64 l[j]] (by simp [hj])) (o := 0) (x := .int .i64 l[j]) rfl
 rw [show (q.add j).add 0 = q.add j by rw [Pl.add_add]; rfl] at this
 exact eW this
theorem kM {H : aA} {es b n io k : Nat} {ov : AV} {vs x : List AV} {f : Bool} (hov : n = 0 ∧ ov = .nilS ∧ vs = [] ∨ n ≠ 0 ∧ ov = .sl (.own io 0) n es false ∧ H[io]? = some (some (.row vs)) ∧ vs.length = n * es)
 (hk : H[k]? = some (some (.row x))) (hx : x.length = es) (ho : x.all one = true) (hb : b ≤ 1000000) (hn : n ≤ 1000000) :
 ∃ G,bT w0 H es b ov (.sl (.own k 0) 1 es f) = some (.sl (.own H.length 0) (n + 1) es false,G) ∧ G.length = H.length + 1 ∧ G[H.length]? = some (some (.row (vs ++ x))) ∧ ∀ (i : Nat) c,(n ≠ 0 → i ≠ io) → H[i]? = some (some c) → G[i]? = some (some c) := by
 have r1 : rdn w0 H (.own k 0) (1 * es) = some x := by
  simp only [rdn,hk]; simp [hx]; rw [← hx]; simp
 rcases hov with ⟨h1,h2,h3⟩ | ⟨h1,h2,h3,h4⟩
 · subst h1; subst h2; subst h3
   refine ⟨H ++ [some (.row x)],?_,by simp,by simp,fun i c _ e => aC e⟩
   simp only [bT,dF,dD,if_true,r1,Option.map_some,Option.bind_some]
   rw [if_neg (by omega),if_pos ⟨by omega,ho⟩]
   simp [eD]
 · have hlt := aI h3
   have r2 : rdn w0 H (.own io 0) (n * es) = some vs := by
    simp only [rdn,h3]; simp [h4]; rw [← h4]; simp
   have hsz : (n + 1) * (b + 1) ≤ 2 ^ 40 := Nat.le_trans (Nat.mul_le_mul (show n + 1 ≤ 1000001 by omega) (show b + 1 ≤ 1000001 by omega)) (by decide)
   refine ⟨H.set io none ++ [some (.row (vs ++ x))],?_,by simp,by simp,fun i c hi e => ?_⟩
   · rw [h2]
     simp only [bT,dF,dD,if_true,r1,Option.map_some,Option.bind_some]
     rw [if_neg (by omega),if_pos ⟨trivial,hsz,ho⟩]
     simp only [Bool.false_eq_true,if_false,r2,Option.bind_some]
   · refine aC ?_
     rw [qB fun e2 => hi h1 e2.symm]; exact e
structure Gro (h H : aA) (es n : Nat) (ov : AV) (vs : List AV) : Prop where
 sub : aF h H
 own : n = 0 ∧ ov = .nilS ∧ vs = [] ∨ ∃ io,h.length ≤ io ∧ n ≠ 0 ∧ ov = .sl (.own io 0) n es false ∧ H[io]? = some (some (.row vs)) ∧ vs.length = n * es
theorem Gro.nil {H : aA} {es : Nat} (s : aF h H) : Gro h H es 0 .nilS [] := ⟨s,.inl ⟨rfl,rfl,rfl⟩⟩
theorem Gro.app {H L : aA} {es n : Nat} {ov : AV} {vs : List AV} (g : Gro h H es n ov vs) : Gro h (H ++ L) es n ov vs := by
 refine ⟨g.sub.app,?_⟩
 rcases g.own with h1 | ⟨io,h1,h2,h3,h4,h5⟩
 · exact .inl h1
 · exact .inr ⟨io,h1,h2,h3,aC h4,h5⟩
theorem Gro.more {H : aA} {es b n k : Nat} {ov : AV} {vs x : List AV} {f : Bool} (g : Gro h H es n ov vs) (hk : H[k]? = some (some (.row x))) (hx : x.length = es) (ho : x.all one = true) (hb : b ≤ 1000000) (hn : n ≤ 1000000) :
 ∃ G,bT w0 H es b ov (.sl (.own k 0) 1 es f) = some (.sl (.own H.length 0) (n + 1) es false,G) ∧ Gro h G es (n + 1) (.sl (.own H.length 0) (n + 1) es false) (vs ++ x) := by
 have hlen : vs.length = n * es := by
  rcases g.own with ⟨h1,_,h3⟩ | ⟨_,_,_,_,_,h5⟩
  · subst h1; subst h3; simp
  · exact h5
 have hov : ∃ io,(n ≠ 0 → h.length ≤ io) ∧ (n = 0 ∧ ov = .nilS ∧ vs = [] ∨ n ≠ 0 ∧ ov = .sl (.own io 0) n es false ∧ H[io]? = some (some (.row vs)) ∧ vs.length = n * es) := by
  rcases g.own with h1 | ⟨io,h1,h2,h3,h4,h5⟩
  · exact ⟨0,fun h => absurd h1.1 h,.inl h1⟩
  · exact ⟨io,fun _ => h1,.inr ⟨h2,h3,h4,h5⟩⟩
 obtain ⟨io,hio,hov⟩ := hov
 obtain ⟨G,e1,e2,e3,e4⟩ := kM (w0 := w0) (b := b) (f := f) hov hk hx ho hb hn
 have hs := g.sub
 refine ⟨G,e1,⟨⟨by have := hs.1; omega,fun i c e => e4 i c (fun h0 => by have := hio h0; have := aI e; omega) (hs.2 i c e)⟩,.inr ⟨H.length,hs.1,by omega,rfl,e3,by rw [List.length_append,hlen,hx,Nat.succ_mul]⟩⟩⟩
theorem Gro.sl {H : aA} {es n : Nat} {ov : AV} {rows : List (List AV)} (g : Gro h H es n ov rows.flatten) (hr : ∀ c ∈ rows,c.length = es) (hn : n = rows.length) (hes : es ≠ 0) : Sl w0 H es ov rows := by
 rcases g.own with ⟨h1,h2,h3⟩ | ⟨io,h1,h2,h3,h4,h5⟩
 · refine .inl ⟨h2,?_⟩
   rw [hn] at h1; exact List.eq_nil_of_length_eq_zero h1
 · subst h3
   have hlt := aI h4
   have e : H = H.take io ++ H.drop io := (List.take_append_drop io H).symm
   have hl : (H.take io).length = io := by rw [List.length_take]; omega
   have := aC2 (w0 := w0) (h := H.take io) rows (es := es) false (L := H.drop io) 0 (by rw [List.getElem?_drop,Nat.add_zero]; exact h4) hr
   rw [← e,hl,Nat.add_zero,← hn] at this
   exact this
theorem oJ (l : List Int) : dG l = (l.map fun z => [AV.int .i64 z]).flatten := by
 induction l with
 | nil => rfl
 | cons a l ih => simp [dG] at ih ⊢; exact ih
theorem aCY {H : aA} {es b : Nat} {rows : List (List AV)} {y : AV} (s : Sl w0 H es y rows) (hr : rows ≠ []) (ho : ∀ c ∈ rows,c.all one = true) (hb : b ≤ 1000000) (hn2 : rows.length ≤ 1000000) :
 bT w0 H es b .nilS y = some (.sl (.own H.length 0) rows.length es false,H ++ [some (.row rows.flatten)]) := by
 rcases s with ⟨s1,s2⟩ | ⟨q,full,s1,s2,s3⟩
 · exact absurd s2 hr
 · obtain ⟨es',rfl,he⟩ := s1
   have hr2 := Sl.all hr s3
   have hne : rows.length ≠ 0 := fun e => hr (List.eq_nil_of_length_eq_zero e)
   have hsz : rows.length * (b + 1) ≤ 2 ^ 40 := Nat.le_trans (Nat.mul_le_mul hn2 (show b + 1 ≤ 1000001 by omega)) (by decide)
   have ho2 : rows.flatten.all one = true := by
    rw [List.all_eq_true]; intro x hx
    obtain ⟨c,hc,hx⟩ := List.mem_flatten.1 hx
    exact List.all_eq_true.1 (ho c hc) x hx
   simp only [bT,dF,he,if_true,hr2,Option.map_some,Option.bind_some]
   rw [if_neg hne,if_pos ⟨hsz,ho2⟩]
   simp [eD]
theorem aCV {a : Nat} (ha : a < 2 ^ 62) : bin .and (.int .i64 (a : Int)) (.int .i64 1) = some (.int .i64 ((a % 2 : Nat) : Int)) := by
 simp only [bin,if_true,eT,jA]
 rw [show (BitVec.ofInt IntKind.i64.bits (a : Int) &&& BitVec.ofInt IntKind.i64.bits (1 : Int)).toNat = a % 2 by
  rw [show (1 : Int) = ((1 : Nat) : Int) from rfl,BitVec.toNat_and,BitVec.ofInt_natCast,BitVec.ofInt_natCast,BitVec.toNat_ofNat,BitVec.toNat_ofNat,Nat.mod_eq_of_lt (a := a),Nat.mod_eq_of_lt (a := 1)]
  · exact Nat.and_one_is_mod a
  · simp [IntKind.bits]
  · simp [IntKind.bits]; omega]
 rw [aAU (by omega)]
def Gr2 (H : aA) (es n io : Nat) (ov : AV) (vs : List AV) : Prop := n = 0 ∧ ov = .nilS ∧ vs = [] ∨ n ≠ 0 ∧ ov = .sl (.own io 0) n es false ∧ H[io]? = some (some (.row vs)) ∧ vs.length = n * es
theorem Gr2.sub {G H : aA} {es n io : Nat} {ov : AV} {vs : List AV} (g : Gr2 G es n io ov vs) (s : aF G H) : Gr2 H es n io ov vs := by
 rcases g with h1 | ⟨h1,h2,h3,h4⟩
 · exact .inl h1
 · exact .inr ⟨h1,h2,s.2 _ _ h3,h4⟩
def mk (n io : Nat) (H : aA) : aA := if n = 0 then H else H.set io none
theorem Gr2.more {H : aA} {es b n io k : Nat} {ov : AV} {vs x : List AV} {f : Bool} (g : Gr2 H es n io ov vs) (hk : H[k]? = some (some (.row x))) (hx : x.length = es) (ho : x.all one = true) (hb : b ≤ 1000000) (hn : n ≤ 1000000) :
 ∃ G,bT w0 H es b ov (.sl (.own k 0) 1 es f) = some (.sl (.own H.length 0) (n + 1) es false,G) ∧ Gr2 G es (n + 1) H.length (.sl (.own H.length 0) (n + 1) es false) (vs ++ x) ∧ aF (mk n io H) (mk (n + 1) H.length G) ∧ G.length = H.length + 1 := by
 have hlen : vs.length = n * es := by
  rcases g with ⟨h1,_,h3⟩ | ⟨_,_,_,h5⟩
  · subst h1; subst h3; simp
  · exact h5
 obtain ⟨G,e1,e2,e3,e4⟩ := kM (w0 := w0) (b := b) (f := f) g hk hx ho hb hn
 refine ⟨G,e1,.inr ⟨by omega,rfl,e3,by rw [List.length_append,hlen,hx,Nat.succ_mul]⟩,⟨?_,fun i c e => ?_⟩,e2⟩
 · simp only [mk]; split <;> (rw [if_neg (by omega)]; simp; omega)
 · have hi := aI e
   have hil : i < H.length := by simp only [mk] at hi; split at hi <;> simpa using hi
   simp only [mk] at e ⊢
   rw [if_neg (by omega),qB (by omega)]
   split at e
   · exact e4 i c (fun h => absurd (by assumption) h) e
   · by_cases h2 : io = i
     · subst h2
       rw [qF hil] at e; cases e
     · rw [qB h2] at e
       exact e4 i c (fun _ => fun h => h2 h.symm) e
theorem aF.set {G H : aA} (s : aF G H) (i : Nat) : aF (G.set i none) (H.set i none) := by
 refine ⟨by simpa using s.1,fun j c e => ?_⟩
 by_cases e2 : i = j
 · subst e2
   have hl := aI e
   rw [qF (by simpa using hl)] at e; cases e
 · rw [qB e2] at e ⊢; exact s.2 j c e
theorem mk_sub {n io : Nat} {H : aA} : aF (mk n io H) H := by unfold mk; split; exact aF.refl; exact aF.msk
theorem wV {n io : Nat} {G H : aA} (s : aF G H) : aF (mk n io G) (mk n io H) := by unfold mk; split; exact s; exact s.set io
section
variable {fr : Fr}
def bdK (n : Nat) (l h : Option Nat) (m : Option (Option Nat)) : Option (Nat × Nat × Option Nat) := match l,h,m with
 | some l,some h,none => if l ≤ h ∧ h ≤ n then some (l,h,none) else none
 | some l,some h,some (some m) => if l ≤ h ∧ h ≤ m ∧ m ≤ n then some (l,h,some m) else none
 | _,_,_ => none
@[go_sem] theorem bdK_2 {n l h : Nat} : bdK n (some l) (some h) none = if l ≤ h ∧ h ≤ n then some (l,h,none) else none := (rfl)
@[go_sem] theorem bdK_3 {n l h m : Nat} : bdK n (some l) (some h) (some (some m)) = if l ≤ h ∧ h ≤ m ∧ m ≤ n then some (l,h,some m) else none := (rfl)
@[go_sem] theorem bounds_0 {n : Nat} : bM fr n none none none = some (0,n,none) := by simp [bM]
@[go_sem] theorem aCT {n : Nat} {y : Opd} : bM fr n none (some y) none = bdK n (some 0) (bP (y.ev fr)) none := by
 simp only [bM,bdK]; cases bP (y.ev fr) <;> rfl
@[go_sem] theorem aCS {n : Nat} {x : Opd} : bM fr n (some x) none none = bdK n (bP (x.ev fr)) (some n) none := by
 simp only [bM,bdK]; cases bP (x.ev fr) <;> rfl
@[go_sem] theorem bounds_lh {n : Nat} {x y : Opd} : bM fr n (some x) (some y) none = bdK n (bP (x.ev fr)) (bP (y.ev fr)) none := by
 simp only [bM,bdK]; cases bP (x.ev fr) <;> cases bP (y.ev fr) <;> rfl
@[go_sem] theorem bounds_hm {n : Nat} {y z : Opd} : bM fr n none (some y) (some z) = bdK n (some 0) (bP (y.ev fr)) (some (bP (z.ev fr))) := by
 simp only [bM,bdK]; cases bP (y.ev fr) <;> cases bP (z.ev fr) <;> rfl
def slK (p : Pl) (len es : Nat) (full : Bool) (b : Option (Nat × Nat × Option Nat)) : Option AV := b.map fun b => .sl (p.add (b.1 * es)) (b.2.1 - b.1) es (cT b.2.2 b.2.1 (full && b.2.1 == len))
@[go_sem] theorem slcV_sl {es : Nat} {p : Pl} {len : Nat} {full : Bool} {lo hi mx : Option Opd} : rV es fr (.sl p len es full) lo hi mx = slK p len es full (bM fr len lo hi mx) := by
 simp only [rV,dD,if_true]; rfl
@[go_sem] theorem slK_s {p : Pl} {len es l h : Nat} {full : Bool} {m : Option Nat} : slK p len es full (some (l,h,m)) = some (.sl (p.add (l * es)) (h - l) es (cT m h (full && h == len))) := (rfl)
@[go_sem] theorem slK_i {p : Pl} {len es : Nat} {full : Bool} {c : Prop} [Decidable c] {x : Nat × Nat × Option Nat} : slK p len es full (if c then some x else none) = if c then slK p len es full (some x) else none := by split <;> rfl
@[go_sem] theorem fullOf_n {h : Nat} {d : Bool} : cT none h d = d := (rfl)
@[go_sem] theorem fullOf_s {m h : Nat} {d : Bool} : cT (some m) h d = (m == h) := (rfl)
def wK (n es i o : Nat) (b : Option (Option Blk)) (q : Option (Nat × Nat × Option Nat)) : Option AV := match b with
 | some (some (.row c)) => if o + n * es ≤ c.length then q.map fun b => .sl (.own i (o + b.1 * es)) (b.2.1 - b.1) es (cT b.2.2 b.2.1 (b.2.1 == n)) else none
 | _ => none
def aBf (n es : Nat) (x : AV) (h : aA) (q : Option (Nat × Nat × Option Nat)) : Option AV := match x with
 | .ptr (.own i o) => wK n es i o h[i]? q
 | _ => none
@[go_sem] theorem slcaV_p {n es i o : Nat} {q : Option (Nat × Nat × Option Nat)} : aBf n es (.ptr (.own i o)) h q = wK n es i o h[i]? q := (rfl)
@[go_sem] theorem slcaB_r {n es i o l hh : Nat} {m : Option Nat} {c : List AV} : wK n es i o (some (some (.row c))) (some (l,hh,m)) = if o + n * es ≤ c.length then some (.sl (.own i (o + l * es)) (hh - l) es (cT m hh (hh == n))) else none := (rfl)
@[go_sem] theorem aop_slca {n es : Nat} {x : Opd} {lo hi mx : Option Opd} : aop w0 (.slca n es x lo hi mx) fr h = onV (aBf n es (x.ev fr) h (bM fr n lo hi mx)) h := by
 simp only [aop,aBf]
 generalize Opd.ev fr x = a
 generalize bM fr n lo hi mx = q
 cases a <;> try rfl
 rename_i p
 cases p with
 | old a => rfl
 | own i o =>
  simp only [wK]
  cases h[i]? with
  | none => rfl
  | some b =>
   cases b with
   | none => rfl
   | some b =>
    cases b with
    | row c =>
     simp only
     split
     · cases q <;> rfl
     · rfl
    | map es => rfl
    | loop _ _ _ _ _ _ _ => rfl
end
attribute [go_sem] Nat.reduceEqDiff Nat.reduceAdd Nat.reduceSub Nat.reduceMul Nat.reduceLT Nat.reduceLeDiff Int.reduceLE Int.reduceLT Int.reduceAdd Int.reduceSub Int.reduceMul Int.reduceEq Int.reduceBEq Int.reduceBNe Int.reduceNeg Int.reduceToNat reduceCtorEq
attribute [go_sem ↓] reduceIte
end Go.Proofs.Ab
namespace Go.Proofs.Ab
open Go Go.Proofs
variable {w0 : World} {h : aA}
attribute [local irreducible] ACall bF cU aZ dN rvC lp rg dr ex un rv
theorem getD_at {α : Type} {l : List α} {i : Nat} {d : α} (h : i < l.length) : l.getD i d = l[i] := by rw [List.getD_eq_getElem?_getD,qA h]; rfl
def inB (x lo hi : Int) : Bool := decide (lo ≤ x) && decide (x ≤ hi)
theorem Gro.put {H : aA} {es n : Nat} {ov : AV} {vs : List AV} (g : Gro h H es n ov vs) (hn : n ≠ 0) : ∃ io,h.length ≤ io ∧ ov = .sl (.own io 0) n es false ∧ H[io]? = some (some (.row vs)) ∧ vs.length = n * es ∧ ∀ vs' : List AV,vs'.length = vs.length → Gro h (H.set io (some (.row vs'))) es n ov vs' := by
 rcases g.own with ⟨h1,_⟩ | ⟨io,h1,h2,h3,h4,h5⟩
 · exact absurd h1 hn
 · refine ⟨io,h1,h3,h4,h5,fun vs' hl => ⟨⟨by rw [List.length_set]; exact g.sub.1,fun i b e => ?_⟩,.inr ⟨io,h1,h2,h3,?_,by rw [hl]; exact h5⟩⟩⟩
   · have hi := aI e
     rw [qB (by omega)]
     exact g.sub.2 i b e
   · rw [qF (aI h4)]
def NS {α : Type} (w0 : World) (h : aA) (es : Nat) (R : α → List AV → Prop) (v : AV) (l : List α) : Prop :=
 ∃ rows : List (List AV),rows.length = l.length ∧ Sl w0 h es v rows ∧ ∀ (j : Nat) x c,l[j]? = some x → rows[j]? = some c → R x c
section
variable {α : Type} {es : Nat} {R R' : α → List AV → Prop} {v : AV} {l : List α}
theorem NS.mono {H : aA} (s : NS w0 h es R v l) (t : aF h H) (m : ∀ x c,R x c → R' x c) : NS w0 H es R' v l := by
 obtain ⟨rows,h1,h2,h3⟩ := s
 exact ⟨rows,h1,h2.sub t,fun j x c a b => m _ _ (h3 j x c a b)⟩
theorem NS.len (s : NS w0 h es R v l) : gJ v = some (.int .i64 l.length) := by
 obtain ⟨rows,h1,h2,h3⟩ := s
 have := h2.use.1
 rw [h1] at this; exact this
theorem NS.bdd (s : NS w0 h es R v l) {N : Nat} (hN : h.length ≤ N) : v.bdd N := by
 obtain ⟨rows,h1,h2,h3⟩ := s
 exact h2.bdd hN
theorem NS.one (s : NS w0 h es R v l) : Ab.one v = true ∧ cellsOf v = some [v] := by
 obtain ⟨rows,h1,h2,h3⟩ := s
 exact h2.one
theorem NS.at_ (s : NS w0 h es R v l) {j : Nat} (hj : j < l.length) : ∃ (p : Pl) (c : List AV),eQ es v (some j) = some (.ptr p) ∧ (∀ L,rdn w0 (h ++ L) p es = some c) ∧ R l[j] c := by
 obtain ⟨rows,h1,h2,h3⟩ := s
 obtain ⟨p,p1,p2⟩ := h2.lt (j := j) (by omega)
 obtain ⟨c,hc⟩ : ∃ c,rows[j]? = some c := ⟨_,qA (by omega)⟩
 exact ⟨p,c,p1,fun L => p2 L c hc,h3 j _ c (qA hj) hc⟩
theorem NS.nil : NS w0 h es R .nilS ([] : List α) := ⟨[],rfl,.inl ⟨rfl,rfl⟩,fun j x c a b => by simp at a⟩
end
theorem Gr2.mask {H : aA} {es n io i : Nat} {ov : AV} {vs : List AV} (g : Gr2 H es n io ov vs) (hi : i ≠ io) : Gr2 (H.set i none) es n io ov vs := by
 rcases g with h1 | ⟨h1,h2,h3,h4⟩
 · exact .inl h1
 · exact .inr ⟨h1,h2,by rw [qB hi]; exact h3,h4⟩
theorem Gr2.gro {H : aA} {es n io : Nat} {ov : AV} {vs : List AV} (g : Gr2 H es n io ov vs) : Gro [] H es n ov vs := by
 refine ⟨⟨Nat.zero_le _,fun i b e => by simp at e⟩,?_⟩
 rcases g with h1 | ⟨h1,h2,h3,h4⟩
 · exact .inl h1
 · exact .inr ⟨io,Nat.zero_le _,h1,h2,h3,h4⟩
theorem Gr2.sl {H : aA} {es n io : Nat} {ov : AV} {rows : List (List AV)} (g : Gr2 H es n io ov rows.flatten) (hr : ∀ c ∈ rows,c.length = es) (hn : n = rows.length) (hes : es ≠ 0) : Sl w0 H es ov rows := g.gro.sl hr hn hes
structure GN {α : Type} (w0 : World) (K : aA) (R : aA → α → List AV → Prop) (H : aA) (es io : Nat) (ov : AV) (l : List α) : Prop where
 make ::
 sub : aF K (mk l.length io H)
 ex : ∃ rows : List (List AV),rows.length = l.length ∧ Gr2 H es l.length io ov rows.flatten ∧ (∀ c ∈ rows,c.length = es) ∧ ∀ (j : Nat) x c,l[j]? = some x → rows[j]? = some c → R (mk l.length io H) x c
section
variable {α : Type} {R : aA → α → List AV → Prop}
theorem GN.nil {K H : aA} {es io : Nat} (s : aF K H) : GN w0 K R H es io .nilS ([] : List α) :=
 ⟨by simpa [mk] using s,[],rfl,.inl ⟨rfl,rfl,rfl⟩,by simp,fun j x c a b => by simp at a⟩
theorem GN.ns {K H : aA} {es io : Nat} {ov : AV} {l : List α} (g : GN w0 K R H es io ov l) (hm : ∀ {A B : aA} {x c},aF A B → R A x c → R B x c) (hes : es ≠ 0) : NS w0 H es (R H) ov l := by
 obtain ⟨rows,h1,h2,h3,h4⟩ := g.ex
 exact ⟨rows,h1,h2.sl h3 h1.symm hes,fun j x c a b => hm mk_sub (h4 j x c a b)⟩
theorem GN.more {K H : aA} {es io : Nat} {ov : AV} {l : List α} (g : GN w0 K R H es io ov l) {G : aA} {es' b : Nat} {k : Nat} {f : Bool} {x : α} {c : List AV} (hs : aF (mk l.length io H) (mk l.length io G)) (hown : Gr2 G es l.length io ov ((g.ex.choose).flatten))
 (hm : ∀ {A B : aA} {x c},aF A B → R A x c → R B x c) (hk : G[k]? = some (some (.row c))) (hc : c.length = es) (ho : c.all one = true) (hx : R (mk l.length io G) x c) (hb : b ≤ 1000000) (hn : l.length ≤ 1000000) :
 ∃ G',bT w0 G es b ov (.sl (.own k 0) 1 es f) = some (.sl (.own G.length 0) (l.length + 1) es false,G') ∧ GN w0 K R G' es G.length (.sl (.own G.length 0) (l.length + 1) es false) (l ++ [x]) ∧ aF (mk l.length io G) (mk (l.length + 1) G.length G') ∧ G'.length = G.length + 1 := by
 obtain ⟨G',e1,e2,e3,e4⟩ := hown.more (w0 := w0) (b := b) (f := f) hk hc ho hb hn
 have hsp := g.ex.choose_spec
 obtain ⟨h1,h2,h3,h4⟩ := hsp
 refine ⟨G',e1,⟨by rw [List.length_append,List.length_singleton]; exact (g.sub.trans hs).trans e3,g.ex.choose ++ [c],by simp [h1],by
  rw [List.length_append,List.length_singleton,List.flatten_append]; simpa using e2,fun d hd => ?_,fun j y d hy hd => ?_⟩,e3,e4⟩
 · rcases List.mem_append.1 hd with hd | hd
   · exact h3 d hd
   · rw [List.mem_singleton.1 hd]; exact hc
 · rw [List.length_append,List.length_singleton]
   have hj := aI hy
   rw [List.length_append,List.length_singleton] at hj
   by_cases hjl : j < l.length
   · rw [qH hjl] at hy
     rw [qH (by rw [h1]; exact hjl)] at hd
     exact hm (hs.trans e3) (h4 j y d hy hd)
   · obtain rfl : j = l.length := by omega
     rw [qI (Nat.le_refl _),Nat.sub_self] at hy
     rw [qI (by rw [h1]; exact Nat.le_refl _),h1,Nat.sub_self] at hd
     simp at hy hd
     subst hy; subst hd
     exact hm e3 hx
theorem GN.sub' {K H G : aA} {es io : Nat} {ov : AV} {l : List α} (g : GN w0 K R H es io ov l) (s : aF H G) (hm : ∀ {A B : aA} {x c},aF A B → R A x c → R B x c) : GN w0 K R G es io ov l := by
 obtain ⟨rows,h1,h2,h3,h4⟩ := g.ex
 exact ⟨g.sub.trans (wV s),rows,h1,h2.sub s,h3,fun j x c a b => hm (wV s) (h4 j x c a b)⟩
theorem GN.lt {K H : aA} {es io : Nat} {ov : AV} {l : List α} (g : GN w0 K R H es io ov l) (h : l.length ≠ 0) : io < H.length := by
 obtain ⟨rows,h1,h2,h3,h4⟩ := g.ex
 rcases h2 with h2 | ⟨_,_,h2,_⟩
 · exact absurd h2.1 h
 · exact aI h2
theorem GN.push {K G : aA} {es io : Nat} {ov : AV} {l : List α} (g : GN w0 K R G es io ov l) {b : Nat} {k : Nat} {f : Bool} {x : α} {c : List AV}
 (hm : ∀ {A B : aA} {x c},aF A B → R A x c → R B x c) (hk : G[k]? = some (some (.row c))) (hc : c.length = es) (ho : c.all one = true) (hx : R (mk l.length io G) x c) (hb : b ≤ 1000000) (hn : l.length ≤ 1000000) :
 ∃ G',bT w0 G es b ov (.sl (.own k 0) 1 es f) = some (.sl (.own G.length 0) (l.length + 1) es false,G') ∧ GN w0 K R G' es G.length (.sl (.own G.length 0) (l.length + 1) es false) (l ++ [x]) ∧ aF (mk l.length io G) (mk (l.length + 1) G.length G') ∧ G'.length = G.length + 1 :=
 g.more (es' := 0) aF.refl g.ex.choose_spec.2.1 hm hk hc ho hx hb hn
end
theorem rC {H : aA} {es io : Nat} {full : Bool} {rows : List (List AV)} (hi : H[io]? = some (some (.row rows.flatten))) (hr : ∀ c ∈ rows,c.length = es) : Sl w0 H es (.sl (.own io 0) rows.length es full) rows := by
 have hlt := aI hi
 have e : H = H.take io ++ H.drop io := (List.take_append_drop io H).symm
 have hl : (H.take io).length = io := by rw [List.length_take]; omega
 have := aC2 (w0 := w0) (h := H.take io) rows (es := es) full (L := H.drop io) 0 (by rw [List.getElem?_drop,Nat.add_zero]; exact hi) hr
 rw [← e,hl,Nat.add_zero] at this
 exact this
structure SlO (w0 : World) (h : aA) (v : AV) (l : List Int) : Prop where
 s : SlI w0 h v l
 e : l = [] → dF w0 h 1 v = some (0,[])
theorem SlO.sub {H : aA} {v : AV} {l : List Int} (a : SlO w0 h v l) (t : aF h H) : SlO w0 H v l := by
 refine ⟨Sl.sub a.s t,fun e => ?_⟩
 have := a.e e
 cases v <;> simp only [dF] at this ⊢
 all_goals first
  | exact this
  | (split at this
     · rename_i h1
       rw [if_pos h1]
       simp only [qD,Prod.mk.injEq] at this ⊢
       obtain ⟨x,h2,h3,h4⟩ := this
       exact ⟨x,t.rdn h2,h3,h4⟩
     · cases this)
  | cases this
theorem aF.setR {G H : aA} (s : aF G H) {i : Nat} {x : Option Blk} (hi : G.length ≤ i) : aF G (H.set i x) :=
 ⟨by rw [List.length_set]; exact s.1,fun j c e => by rw [qB (by have := aI e; omega)]; exact s.2 j c e⟩
theorem Gr2.keep {G H : aA} {es n io : Nat} {ov : AV} {vs : List AV} (g : Gr2 G es n io ov vs) (s : ∀ c,G[io]? = some (some c) → H[io]? = some (some c)) : Gr2 H es n io ov vs := by
 rcases g with h1 | ⟨h1,h2,h3,h4⟩
 · exact .inl h1
 · exact .inr ⟨h1,h2,s _ h3,h4⟩
theorem Gr2.one {H : aA} {es n io : Nat} {ov : AV} {vs : List AV} (g : Gr2 H es n io ov vs) : Ab.one ov = true ∧ cellsOf ov = some [ov] := by
 rcases g with ⟨_,rfl,_⟩ | ⟨_,rfl,_⟩ <;> exact ⟨rfl,rfl⟩
theorem Gro.setN {K H : aA} {es n i : Nat} {ov : AV} {vs : List AV} {b : Option Blk} (g : Gro K H es n ov vs) (hi : K[i]? = some none) : Gro K (H.set i b) es n ov vs := by
 have hlt := aE hi
 refine ⟨⟨by rw [List.length_set]; exact g.sub.1,fun j c e => ?_⟩,?_⟩
 · rw [qB (fun e2 => by subst e2; rw [hi] at e; cases e)]; exact g.sub.2 j c e
 · rcases g.own with h1 | ⟨io,h1,h2,h3,h4,h5⟩
   · exact .inl h1
   · exact .inr ⟨io,h1,h2,h3,by rw [qB (by omega)]; exact h4,h5⟩
theorem SlI.at_ {x : AV} {l : List Int} (a : SlI w0 h x l) {j : Nat} (hj : j < l.length) : ∃ p : Pl,eQ 1 x (some j) = some (.ptr p) ∧ (∀ L,rd w0 (h ++ L) p = some (.int .i64 l[j])) ∧ rd w0 h p = some (.int .i64 l[j]) := by
 obtain ⟨_,q,qi,qr⟩ := SlI.use a
 have := qr j hj []
 rw [List.append_nil] at this
 exact ⟨_,qi j hj,qr j hj,this⟩
theorem aF.set2 {A B : aA} {i : Nat} (s : aF A B) (hi : i < A.length) : aF (A.set i none) (B.set i none) := ⟨by simp only [List.length_set]; exact s.1,fun j b e => by
 by_cases q : i = j
 · subst q; rw [qF hi] at e; cases e
 · rw [qB q] at e ⊢; exact s.2 _ _ e⟩
structure OL {α : Type} (w0 : World) (R : aA → α → List AV → Prop) (H : aA) (es io : Nat) (ov : AV) (l : List α) : Prop where
 ex : ∃ (rows : List (List AV)) (f : Bool),rows.length = l.length ∧ ov = .sl (.own io 0) l.length es f ∧ H[io]? = some (some (.row rows.flatten)) ∧ (∀ c ∈ rows,c.length = es ∧ c.all one = true) ∧ ∀ (j : Nat) x c,l[j]? = some x → rows[j]? = some c → R (H.set io none) x c
section
variable {α : Type} {R : aA → α → List AV → Prop}
theorem OL.one {H : aA} {es k : Nat} {f : Bool} {x : α} {c : List AV} (hk : H[k]? = some (some (.row c))) (hc : c.length = es) (ho : c.all Ab.one = true) (hx : R (H.set k none) x c) : OL w0 R H es k (.sl (.own k 0) 1 es f) [x] :=
 ⟨[c],f,rfl,rfl,by simpa using hk,fun d hd => by simp only [List.mem_singleton] at hd; subst hd; exact ⟨hc,ho⟩,fun j y d hy hd => by
  have := aI hy
  obtain rfl : j = 0 := by simpa using this
  simp at hy hd
  subst hy; subst hd; exact hx⟩
theorem OL.ns {H : aA} {es io : Nat} {ov : AV} {l : List α} (g : OL w0 R H es io ov l) (hm : ∀ {A B : aA} {x c},aF A B → R A x c → R B x c) : NS w0 H es (R H) ov l := by
 obtain ⟨rows,f,h1,h2,h3,h4,h5⟩ := g.ex
 refine ⟨rows,h1,?_,fun j x c a b => hm aF.msk (h5 j x c a b)⟩
 rw [h2,← h1]
 exact rC h3 fun c hc => (h4 c hc).1
theorem OL.lt {H : aA} {es io : Nat} {ov : AV} {l : List α} (g : OL w0 R H es io ov l) : io < H.length := by
 obtain ⟨rows,f,h1,h2,h3,h4,h5⟩ := g.ex
 exact aI h3
theorem OL.sub' {H G : aA} {es io : Nat} {ov : AV} {l : List α} (g : OL w0 R H es io ov l) (s : aF H G) (hm : ∀ {A B : aA} {x c},aF A B → R A x c → R B x c) : OL w0 R G es io ov l := by
 obtain ⟨rows,f,h1,h2,h3,h4,h5⟩ := g.ex
 exact ⟨rows,f,h1,h2,s.2 _ _ h3,h4,fun j x c a b => hm (s.set2 (aI h3)) (h5 j x c a b)⟩
theorem OL.more {H : aA} {es io b : Nat} {ov y : AV} {l l' : List α} (g : OL w0 R H es io ov l) (hm : ∀ {A B : aA} {x c},aF A B → R A x c → R B x c) (ho : ∀ {A : aA} {x c},R A x c → c.all Ab.one = true) (hcl : ∀ {A : aA} {x c},R A x c → c.length = es)
 (s : NS w0 (H.set io none) es (R (H.set io none)) y l') (hne : l' ≠ []) (hb : b ≤ 1000000) (hn : l.length + l'.length ≤ 1000000) :
 ∃ G,bT w0 H es b ov y = some (.sl (.own H.length 0) (l.length + l'.length) es false,G) ∧ OL w0 R G es H.length (.sl (.own H.length 0) (l.length + l'.length) es false) (l ++ l') ∧ aF (H.set io none) (G.set H.length none) ∧ G.length = H.length + 1 := by
 obtain ⟨rows,f,h1,h2,h3,h4,h5⟩ := g.ex
 obtain ⟨rows',r1,r2,r3⟩ := s
 have hlt := aI h3
 have hrne : rows' ≠ [] := fun e => hne (List.eq_nil_of_length_eq_zero (by rw [← r1,e]; rfl))
 have hr' : ∀ c ∈ rows',c.length = es ∧ c.all Ab.one = true := fun c hc => by
  obtain ⟨j,hj,e⟩ := List.mem_iff_getElem.1 hc
  have e1 : rows'[j]? = some c := by rw [qA hj,e]
  have e2 := qA (show j < l'.length by omega)
  exact ⟨hcl (r3 j _ c e2 e1),ho (r3 j _ c e2 e1)⟩
 have hp : rdn w0 H (.own io 0) (l.length * es) = some rows.flatten := by
  have : rows.flatten.length = l.length * es := by
   rw [← h1]
   clear h1 h2 h3 h5
   induction rows with
   | nil => simp
   | cons c rows ih => rw [List.flatten_cons,List.length_append,ih fun d hd => h4 d (by simp [hd]),(h4 c (by simp)).1,List.length_cons,Nat.succ_mul]; omega
  simp only [rdn,h3]
  rw [if_pos (by omega),List.drop_zero,← this,List.take_length]
 have key : ∀ G : aA,G.length = H.length + 1 → (∀ i c,i ≠ io → H[i]? = some (some c) → G[i]? = some (some c)) → G[H.length]? = some (some (.row (rows.flatten ++ rows'.flatten))) →
  OL w0 R G es H.length (.sl (.own H.length 0) (l.length + l'.length) es false) (l ++ l') ∧ aF (H.set io none) (G.set H.length none) := fun G g1 g2 g3 => by
  have hs : aF (H.set io none) (G.set H.length none) := by
   refine ⟨by simp only [List.length_set]; omega,fun i c e => ?_⟩
   have hi := aI e
   rw [List.length_set] at hi
   rw [qB (by omega)]
   by_cases q : io = i
   · subst q; rw [qF hlt] at e; cases e
   · rw [qB q] at e
     exact g2 i c (Ne.symm q) e
  refine ⟨⟨rows ++ rows',false,by simp [h1,r1],by simp,by simpa using g3,fun c hc => ?_,fun j x c hx hc => ?_⟩,hs⟩
  · rcases List.mem_append.1 hc with hc | hc
    · exact h4 c hc
    · exact hr' c hc
  · by_cases hj : j < l.length
    · rw [qH hj] at hx
      rw [qH (by omega)] at hc
      exact hm hs (h5 j x c hx hc)
    · rw [qI (by omega)] at hx
      rw [qI (by omega),h1] at hc
      exact hm hs (r3 _ x c hx hc)
 have r2H : Sl w0 H es y rows' := r2.sub aF.msk
 cases f with
 | true =>
  have := aCX (b := b) r2H hrne (fun c hc => (hr' c hc).2) hp hb (by omega)
  rw [r1] at this
  refine ⟨_,by rw [h2]; exact this,?_⟩
  obtain ⟨k1,k2⟩ := key (H ++ [some (.row (rows.flatten ++ rows'.flatten))]) (by simp) (fun i c _ e => aC e) (by simp)
  exact ⟨k1,k2,by simp⟩
 | false =>
  rcases r2H with ⟨_,e⟩ | ⟨q,full,s1,s2,s3⟩
  · exact absurd e hrne
  obtain ⟨es',rfl,he⟩ := s1
  have hr2 := Sl.all hrne s3
  have hne2 : rows'.length ≠ 0 := fun e => hrne (List.eq_nil_of_length_eq_zero e)
  have hsz : (l.length + rows'.length) * (b + 1) ≤ 2 ^ 40 := Nat.le_trans (Nat.mul_le_mul (show l.length + rows'.length ≤ 1000001 by omega) (show b + 1 ≤ 1000001 by omega)) (by decide)
  have ho2 : rows'.flatten.all Ab.one = true := by
   rw [List.all_eq_true]; intro x hx
   obtain ⟨c,hc,hx⟩ := List.mem_flatten.1 hx
   exact List.all_eq_true.1 (hr' c hc).2 x hx
  have ea : bT w0 H es b (.sl (.own io 0) l.length es false) (.sl q rows'.length es' full) = some (.sl (.own H.length 0) (l.length + l'.length) es false,H.set io none ++ [some (.row (rows.flatten ++ rows'.flatten))]) := by
   simp only [bT,dF,he,dD,if_true,hr2,Option.map_some,Option.bind_some]
   rw [if_neg hne2,if_pos ⟨trivial,hsz,ho2⟩]
   simp only [Bool.false_eq_true,if_false,hp,Option.bind_some]
   simp [r1]
  refine ⟨_,by rw [h2]; exact ea,?_⟩
  obtain ⟨k1,k2⟩ := key (H.set io none ++ [some (.row (rows.flatten ++ rows'.flatten))]) (by simp) (fun i c q e => aC (by rw [qB (Ne.symm q)]; exact e)) (by simp)
  exact ⟨k1,k2,by simp⟩
end
theorem eO {H : aA} {b : List Int} {io n : Nat} {f : Bool} (e : H[io]? = some (some (.row (dG b)))) (hn : n = b.length) : SlI w0 H (.sl (.own io 0) n 1 f) b := by
 have := rC (w0 := w0) (H := H) (es := 1) (io := io) (full := f) (rows := b.map fun z => [AV.int .i64 z]) (by rw [e,oJ]) (by intro c hc; obtain ⟨a,_,rfl⟩ := List.mem_map.1 hc; rfl)
 rw [List.length_map] at this
 rw [hn]; exact this
theorem OL.push {α : Type} {R : aA → α → List AV → Prop} {H : aA} {es io b : Nat} {ov : AV} {l : List α} {x : α} {c : List AV} {f : Bool} (g : OL w0 R H es io ov l) (hm : ∀ {A B : aA} {x c},aF A B → R A x c → R B x c) (ho : ∀ {A : aA} {x c},R A x c → c.all Ab.one = true) (hcl : ∀ {A : aA} {x c},R A x c → c.length = es)
 (hx : R (H.set io none) x c) (hb : b ≤ 1000000) (hn : l.length + 1 ≤ 1000000) :
 ∃ G,bT w0 (H ++ [some (.row c)]) es b ov (.sl (.own H.length 0) 1 es f) = some (.sl (.own (H.length + 1) 0) (l.length + 1) es false,G) ∧ OL w0 R G es (H.length + 1) (.sl (.own (H.length + 1) 0) (l.length + 1) es false) (l ++ [x]) ∧ aF (H.set io none) (G.set (H.length + 1) none) ∧ G.length = H.length + 2 := by
 have hio := g.lt
 obtain ⟨H1,eH1⟩ : ∃ H1,H1 = H ++ [some (Blk.row c)] := ⟨_,rfl⟩
 have s1 : aF H H1 := eH1 ▸ aF.refl.app
 have k1 : H1[H.length]? = some (some (.row c)) := by rw [eH1]; simp
 have l1 : H1.length = H.length + 1 := by rw [eH1]; simp
 have hs : aF (H.set io none) (H1.set io none) := s1.set2 hio
 have hns : NS w0 (H1.set io none) es (R (H1.set io none)) (.sl (.own H.length 0) 1 es f) [x] := by
  refine ⟨[c],rfl,rC (rows := [c]) (by rw [qB (by omega)]; simpa using k1) (fun d hd => by simp only [List.mem_singleton] at hd; subst hd; exact hcl hx),fun j y d hy hd => ?_⟩
  have := aI hy
  obtain rfl : j = 0 := by simpa using this
  simp at hy hd
  subst hy; subst hd; exact hm hs hx
 obtain ⟨G,a1,a2,a3,a4⟩ := (g.sub' s1 hm).more (b := b) hm ho hcl hns (by simp) hb (by simpa using hn)
 rw [l1] at a1 a2 a3 a4
 rw [← eH1]
 exact ⟨G,a1,a2,hs.trans a3,a4⟩
end Go.Proofs.Ab
namespace Go.Proofs.Ab
open Go Go.Proofs
variable {w0 : World} {h : aA}
noncomputable def cL (p : List Nat) : Code := bO (cZ 165) p
noncomputable def sL8 : ByteArray := match cL [1,1,1,1,0] with
 | .region _ ops _ => (match ops.toList[3]? with
  | some o => (match o.op with
   | .index _ (.const (.string s)) _ => s
   | _ => .empty)
  | none => .empty)
 | _ => .empty
noncomputable def lR : List Oper := [{ dst := some 19, op := .move (.tmp 2), type := 3, pos := "bits.go:350", after := #[], guard := none }, { dst := some 20, op := .move (.tmp 0), type := 232, pos := "bits.go:350", after := #[], guard := none }, { dst := some 21, op := .convert 232 5 (.tmp 20), type := 5, pos := "bits.go:350", after := #[⟨1, .data⟩], guard := none },
 { dst := some 22, op := .index 9 (.const (.string sL8)) (.tmp 21), type := 5, pos := "bits.go:350", after := #[⟨2, .data⟩], guard := none }, { dst := some 23, op := .convert 5 3 (.tmp 22), type := 3, pos := "bits.go:350", after := #[⟨3, .data⟩], guard := none },
 { dst := some 24, op := .binOp .add 3 (.tmp 19) (.tmp 23) 3, type := 3, pos := "bits.go:350", after := #[⟨0, .data⟩, ⟨4, .data⟩], guard := none }, { dst := some 2, op := .assign (.tmp 24), type := 3, pos := "bits.go:350", after := #[⟨5, .data⟩, ⟨0, .phase⟩, ⟨1, .phase⟩, ⟨2, .phase⟩, ⟨3, .phase⟩, ⟨4, .phase⟩, ⟨5, .phase⟩], guard := none }]
noncomputable def cLen : Code := .seq (cL [0]) (.seq (.seq (cL [1,0,0]) (.cond (.tmp 4) (cL [1,0,1,0]) .skip)) (.seq (.seq (cL [1,1,0,0]) (.cond (.tmp 8) (cL [1,1,0,1,0]) .skip)) (.seq (.seq (cL [1,1,1,0,0]) (.cond (.tmp 14) (cL [1,1,1,0,1,0]) .skip)) (.seq (.region 10 lR.toArray false) .ret))))
theorem cLen_b : (Tryz.prog.funcs[165]?).bind (·.body) = some cLen := by kernel_rfl
theorem cLen_r : ((Tryz.prog.funcs[165]?).map fun fn => (fn.results.toList.mapM (crv Tryz.prog),fn.ntmps)) = some (some [.t 2],25) := by kernel_rfl
theorem cLen_h : aB Tryz.prog 165 = true := by kernel_rfl
theorem cLen_0 : aL Tryz.prog 25 (cL [0]) = some (.reg [.op (some 2) none (.mov (i_ 0))]) := by kernel_rfl
theorem cLen_1 : aL Tryz.prog 25 (cL [1,0,0]) = some (.reg [.op (some 3) none (.mov (.t 0)),.op (some 4) none (.bin .geq (.t 3) (.k (.int .u64 4294967296)))]) := by kernel_rfl
theorem cLen_2 : aL Tryz.prog 25 (cL [1,1,0,0]) = some (.reg [.op (some 7) none (.mov (.t 0)),.op (some 8) none (.bin .geq (.t 7) (.k (.int .u64 65536)))]) := by kernel_rfl
theorem cLen_3 : aL Tryz.prog 25 (cL [1,1,1,0,0]) = some (.reg [.op (some 13) none (.mov (.t 0)),.op (some 14) none (.bin .geq (.t 13) (.k (.int .u64 256)))]) := by kernel_rfl
theorem cLen_x : (lR.map (cE Tryz.prog 25 lR.toArray)) = [some (.op (some 19) none (.mov (.t 2))),some (.op (some 20) none (.mov (.t 0))),some (.op (some 21) none (.conv .u8 (.t 20))),none,some (.op (some 23) none (.conv .i64 (.t 22))),some (.op (some 24) none (.bin .add (.t 19) (.t 23))),some (.op (some 2) none (.mov (.t 24)))] := by kernel_rfl
theorem aBg : sL8.size = 256 := by kernel_rfl
theorem str9 : Tryz.prog.underlying 9 = some .string := by kernel_rfl
def ii (n : Int) : AV := .int .i64 n
theorem jW {l r : Option Nat} {nt Z : Nat} {B : Bs} {m : Emb} {fr : Fr} {a : Act} {w : World} {P : Program} {c : Code} {ml : List MIx} (hc : aL P nt c = some (.reg ml)) (sa : SA w0 r l nt Z B m fr h a w) {K : Fr → aA → Prop} (e : vc P w0 ml fr h K) {Q : Exit → Act → World → Prop}
 (hQ : ∀ m' fr' h' a' w',bK Z w0 m m' h h' w w' → SA w0 r l nt Z B m' fr' h' a' w' → K fr' h' → Q .normal a' w') : c.wpIn (Wd l) 0 P Q a w :=
 wpIn_mono (wE (Q := fun e fr h => e = .normal ∧ K fr h) (dT e fun _ _ k => ⟨rfl,k⟩) c hc m a w B l sa) fun x a' w' ⟨m',fr',h',s,sa',q1,q2⟩ => by
  subst q1; exact hQ m' fr' h' a' w' s sa' q2
theorem aFQ (n : Nat) (hn : n < 256) : ACall Tryz.prog w0 165 [.int .u64 n] h fun v h' => (∃ k,v = .int .i64 k) ∧ h' = h := by
 obtain ⟨fn,hfn,hc⟩ := qC.1 cLen_b
 have hrn := cLen_r
 rw [hfn] at hrn
 simp only [Option.map_some,Option.some.injEq,Prod.mk.injEq] at hrn
 obtain ⟨hrs,hnt⟩ := hrn
 refine jQ hfn hc hrs cLen_h (by rw [hnt]; simp) fun hh hbb m a w B l sa => ?_
 rw [hnt] at sa ⊢
 have hx := cLen_x
 simp only [lR,List.map_cons,List.map_nil,List.cons.injEq] at hx
 obtain ⟨x0,x1,x2,_,x4,x5,x6,_⟩ := hx
 have g1 : ∀ N : Int,(n : Int) < N → decide ((n : Int) ≥ N) = false := fun N hN => decide_eq_false (by omega)
 refine wpIn_seq (jW cLen_0 sa (K := fun f g => f = [(2,ii 0),(0,.int .u64 n)] ∧ g = h) ⟨rfl,rfl⟩ fun m1 f1 h1 a1 w1 s1 sa1 ⟨e1,e2⟩ => ?_)
 subst e1; subst e2
 refine wpIn_seq (wpIn_seq (jW cLen_1 sa1 (K := fun f g => f = [(4,.bool false),(3,.int .u64 n),(2,ii 0),(0,.int .u64 n)] ∧ g = h1) (by simp [vc,dY,dR,aop,bin,eT,Opd.ev,Fr.get,Fr.put,ii]; omega) fun m2 f2 h2 a2 w2 s2 sa2 ⟨e1,e2⟩ => ?_))
 subst e1; subst e2
 refine wpIn_cond_false ((sa2.frame 4).1) (wpIn_skip ?_)
 refine wpIn_seq (wpIn_seq (jW cLen_2 sa2 (K := fun f g => f = [(8,.bool false),(7,.int .u64 n),(4,.bool false),(3,.int .u64 n),(2,ii 0),(0,.int .u64 n)] ∧ g = h2) (by simp [vc,dY,dR,aop,bin,eT,Opd.ev,Fr.get,Fr.put,ii]; omega) fun m3 f3 h3 a3 w3 s3 sa3 ⟨e1,e2⟩ => ?_))
 subst e1; subst e2
 refine wpIn_cond_false ((sa3.frame 8).1) (wpIn_skip ?_)
 refine wpIn_seq (wpIn_seq (jW cLen_3 sa3 (K := fun f g => f = [(14,.bool false),(13,.int .u64 n),(8,.bool false),(7,.int .u64 n),(4,.bool false),(3,.int .u64 n),(2,ii 0),(0,.int .u64 n)] ∧ g = h3) (by simp [vc,dY,dR,aop,bin,eT,Opd.ev,Fr.get,Fr.put,ii]; omega) fun m4 f4 h4 a4 w4 s4 sa4 ⟨e1,e2⟩ => ?_))
 subst e1; subst e2
 refine wpIn_cond_false ((sa4.frame 14).1) (wpIn_skip ?_)
 refine wpIn_seq (wpIn_region_lit ?_)
 change wpListIn _ _ Tryz.prog lR.toArray _ [_,_,_,_,_,_,_] _ _
 simp only [wpListIn]
 refine cI (P := Tryz.prog) (ops := lR.toArray) (K := fun f g => f = [(19,ii 0),(14,.bool false),(13,.int .u64 n),(8,.bool false),(7,.int .u64 n),(4,.bool false),(3,.int .u64 n),(2,ii 0),(0,.int .u64 n)] ∧ g = h4) x0 sa4 ⟨_,_,rfl,rfl,rfl⟩ fun m5 f5 h5 a5 w5 s5 sa5 ⟨e1,e2⟩ _ => ?_
 subst e1; subst e2
 refine cI (P := Tryz.prog) (ops := lR.toArray) (K := fun f g => f = [(20,.int .u64 n),(19,ii 0),(14,.bool false),(13,.int .u64 n),(8,.bool false),(7,.int .u64 n),(4,.bool false),(3,.int .u64 n),(2,ii 0),(0,.int .u64 n)] ∧ g = h5) x1 sa5 ⟨_,_,rfl,rfl,rfl⟩ fun m6 f6 h6 a6 w6 s6 sa6 ⟨e1,e2⟩ _ => ?_
 subst e1; subst e2
 refine cI (P := Tryz.prog) (ops := lR.toArray) (K := fun f g => f = [(21,.int .u8 n),(20,.int .u64 n),(19,ii 0),(14,.bool false),(13,.int .u64 n),(8,.bool false),(7,.int .u64 n),(4,.bool false),(3,.int .u64 n),(2,ii 0),(0,.int .u64 n)] ∧ g = h6) x2 sa6 ⟨.int .u8 n,h6,?_,rfl,rfl⟩ fun m7 f7 h7 a7 w7 s7 sa7 ⟨e1,e2⟩ _ => ?_
 · show ((cF .u8 (n : Int)).bind fun v => some (v,h6)) = _
   rw [cF,if_pos]
   · rfl
   · simp [inK,IntKind.min,IntKind.max,IntKind.bits,IntKind.signed]; omega
 subst e1; subst e2
 obtain ⟨bt,hbt⟩ : ∃ b : UInt8,(Instr.index 9 (.string sL8) (.int .u8 n)).run Tryz.prog w7 = .ok (.int .u8 b.toNat) w7 := by
  rw [run_index_string w7 9 sL8 .u8 n str9,dif_pos ⟨by omega,by rw [aBg]; omega⟩]; exact ⟨_,rfl⟩
 have he : a7.eval (.tmp 21) = .int .u8 n := (sa7.frame 21).1
 refine gW (P := Tryz.prog) (l := l) (v' := .int .u8 bt.toNat) (w' := w7) rfl (fun c => by simp) sa7 (by simp [execOp,he,show a7.eval (.const (.string sL8)) = .string sL8 from rfl,hbt]) ?_
 have hb256 : bt.toNat < 256 := bt.toNat_lt
 refine cI (P := Tryz.prog) (ops := lR.toArray) (K := fun f g => f = [(23,ii bt.toNat),(22,.int .u8 bt.toNat),(21,.int .u8 n),(20,.int .u64 n),(19,ii 0),(14,.bool false),(13,.int .u64 n),(8,.bool false),(7,.int .u64 n),(4,.bool false),(3,.int .u64 n),(2,ii 0),(0,.int .u64 n)] ∧ g = h7) x4 (sa7.put1 (d := some 22) (v := .int .u8 bt.toNat) rfl rfl trivial) ⟨.int .i64 bt.toNat,h7,?_,rfl,rfl⟩ fun m8 f8 h8 a8 w8 s8 sa8 ⟨e1,e2⟩ _ => ?_
 · show ((cF .i64 (bt.toNat : Int)).bind fun v => some (v,h7)) = _
   rw [cF,if_pos]
   · rfl
   · exact mC.2 (by unfold I64; omega)
 subst e1; subst e2
 refine cI (P := Tryz.prog) (ops := lR.toArray) (K := fun f g => f = [(24,ii bt.toNat),(23,ii bt.toNat),(22,.int .u8 bt.toNat),(21,.int .u8 n),(20,.int .u64 n),(19,ii 0),(14,.bool false),(13,.int .u64 n),(8,.bool false),(7,.int .u64 n),(4,.bool false),(3,.int .u64 n),(2,ii 0),(0,.int .u64 n)] ∧ g = h8) x5 sa8 ⟨.int .i64 bt.toNat,h8,?_,rfl,rfl⟩ fun m9 f9 h9 a9 w9 s9 sa9 ⟨e1,e2⟩ _ => ?_
 · show ((cF .i64 (0 + (bt.toNat : Int))).bind fun v => some (v,h8)) = _
   rw [Int.zero_add,cF,if_pos]
   · rfl
   · exact mC.2 (by unfold I64; omega)
 subst e1; subst e2
 refine cI (P := Tryz.prog) (ops := lR.toArray) (K := fun f g => Fr.get f 2 = ii bt.toNat ∧ g = h9) x6 sa9 ⟨_,_,rfl,rfl,rfl⟩ fun m10 f10 h10 a10 w10 s10 sa10 ⟨e1,e2⟩ _ => ?_
 subst e2
 refine wpIn_ret ⟨m10,f10,h10,?_,sa10,.inr rfl,f10.get 2,rfl,⟨_,e1⟩,rfl⟩
 exact ((((((((s1.trans s2).trans s3).trans s4).trans (s5.toZ sa4.hz)).trans (s6.toZ sa5.hz)).trans (s7.toZ sa6.hz)).trans (s8.toZ sa7.hz)).trans (s9.toZ sa8.hz)).trans (s10.toZ sa9.hz)
end Go.Proofs.Ab
namespace Go.Proofs.Ab
open Go Go.Proofs
variable {w0 : World} {h : aA}
attribute [local irreducible] ACall bF cU aZ dN rvC lp rg dr ex un rv
theorem aFV (x : Int) : aZ Tryz.prog w0 147 [.int .i64 x] h (.bool false) h := by
 refine aT aU sP xI xH (qE rfl) (by simp [AV.bdd,AV.bdds]) fun hb ha => aY ?_
 have e : (x != x) = false := by simp
 simp only [go_sem,mf147,e]
theorem less_c (x y : Int) : aZ Tryz.prog w0 161 [.int .i64 x,.int .i64 y] h (.bool (decide (x < y))) h := by
 refine aT aU aBK aEy aEx (qE rfl) (by simp [AV.bdd,AV.bdds]) fun hb ha => aY ?_
 simp only [go_sem,mf161]
 refine aK (aFV x).v ?_
 simp only [go_sem]
def srt (ys : List Int) (i : Nat) : Prop := ∀ p q x y,p < q → q < i → ys[p]? = some x → ys[q]? = some y → x ≤ y
def srt1 (ys : List Int) (i j : Nat) : Prop := ∀ p q x y,p < q → q ≤ i → q ≠ j → ys[p]? = some x → ys[q]? = some y → x ≤ y
def swp (ys : List Int) (j : Nat) (u v : Int) : List Int := (ys.set j u).set (j - 1) v
theorem aAX {ys : List Int} {j : Nat} {u v : Int} (hj : 0 < j) (hu : ys[j - 1]? = some u) (hv : ys[j]? = some v) : (swp ys j u v).Perm ys := by
 obtain ⟨A,B,e,hA⟩ : ∃ A B,ys = A ++ u :: v :: B ∧ A.length = j - 1 := by
  have h1 := aI hu
  have h2 := aI hv
  refine ⟨ys.take (j - 1),ys.drop (j + 1),?_,by rw [List.length_take]; omega⟩
  have e1 : ys = ys.take (j - 1) ++ ys.drop (j - 1) := (List.take_append_drop _ _).symm
  rw [List.drop_eq_getElem_cons h1,show j - 1 + 1 = j by omega,List.drop_eq_getElem_cons h2] at e1
  rw [qA h1] at hu
  rw [qA h2] at hv
  rw [Option.some.inj hu,Option.some.inj hv] at e1
  exact e1
 subst e
 have : swp (A ++ u :: v :: B) j u v = A ++ v :: u :: B := by
  obtain rfl : j = A.length + 1 := by omega
  simp [swp,List.set_append]
 rw [this]
 exact (List.Perm.swap u v B).append_left A
theorem aDr {ys : List Int} {j : Nat} {u v : Int} (hj : 0 < j) (hl : j < ys.length) (p : Nat) : (swp ys j u v)[p]? = if p = j - 1 then some v else if p = j then some u else ys[p]? := by
 simp only [swp]
 by_cases h1 : p = j - 1
 · rw [if_pos h1,h1,qF (by rw [List.length_set]; omega)]
 · rw [if_neg h1,qB (fun e => h1 e.symm)]
   by_cases h2 : p = j
   · rw [if_pos h2,h2,qF hl]
   · rw [if_neg h2,qB (fun e => h2 e.symm)]
theorem aAZ {ys : List Int} {i j : Nat} {u v : Int} (hs : srt1 ys i j) (hj : 0 < j) (hji : j ≤ i) (hl : j < ys.length) (hu : ys[j - 1]? = some u) (hv : ys[j]? = some v) (huv : v < u) : srt1 (swp ys j u v) i (j - 1) := by
 intro p q x y hpq hq hqj hx hy
 rw [aDr hj hl] at hx hy
 by_cases h1 : q = j
 · subst h1
   rw [if_neg (by omega),if_pos rfl] at hy
   rw [Option.some.injEq] at hy
   subst hy
   by_cases h2 : p = q - 1
   · rw [if_pos h2] at hx
     rw [Option.some.injEq] at hx
     omega
   · rw [if_neg h2,if_neg (by omega)] at hx
     exact hs p (q - 1) x u (by omega) (by omega) (by omega) hx hu
 · rw [if_neg hqj,if_neg h1] at hy
   by_cases h2 : p = j - 1
   · rw [if_pos h2] at hx
     rw [Option.some.injEq] at hx
     subst hx
     exact hs j q v y (by omega) hq h1 hv hy
   · rw [if_neg h2] at hx
     by_cases h3 : p = j
     · rw [if_pos h3] at hx
       rw [Option.some.injEq] at hx
       subst hx
       exact hs (j - 1) q u y (by omega) hq h1 hu hy
     · rw [if_neg h3] at hx
       exact hs p q x y hpq hq h1 hx hy
theorem wI {ys : List Int} {i j : Nat} (hs : srt1 ys i j) (hd : j = 0 ∨ ∃ u v,ys[j - 1]? = some u ∧ ys[j]? = some v ∧ u ≤ v) : srt ys (i + 1) := by
 intro p q x y hpq hq hx hy
 by_cases h1 : q = j
 · subst h1
   rcases hd with rfl | ⟨u,v,hu,hv,huv⟩
   · omega
   · rw [hv] at hy
     cases hy
     by_cases h2 : p = q - 1
     · subst h2; rw [hu] at hx; cases hx; exact huv
     · exact Int.le_trans (hs p (q - 1) x u (by omega) (by omega) (by omega) hx hu) huv
 · exact hs p q x y hpq (by omega) h1 hx hy
def iis (l : List Int) : List AV := l.map ii
theorem mD {l : List Int} {j : Nat} {x : Int} (e : l[j]? = some x) : (iis l)[j]? = some (.int .i64 x) := by simp [iis,e,ii]
theorem yJ {l : List Int} {j : Nat} {x : Int} : (iis l).set j (.int .i64 x) = iis (l.set j x) := by simp [iis,ii,List.map_set]
theorem vZ {k : Nat} {ys : List Int} (hb : HB h) (hkl : k < h.length) : HB (h.set k (some (.row (iis ys)))) := fun i b hi => by
 rw [List.length_set]
 by_cases e : k = i
 · subst e
   rw [qF hkl] at hi
   cases hi
   intro x hx
   simp only [iis,List.mem_map,ii] at hx
   obtain ⟨y,_,rfl⟩ := hx
   exact trivial
 · rw [qB e] at hi; exact hb i b hi
theorem aFU {k : Nat} {xs : List Int} {f : Bool} (hk : h[k]? = some (some (.row (iis xs)))) (hn : xs.length < 1000000) :
 ACall Tryz.prog w0 155 [.sl (.own k 0) xs.length 1 f,ii 0,ii xs.length] h fun v H => v = .tup [] ∧ ∃ ys,ys.Perm xs ∧ srt ys xs.length ∧ H = h.set k (some (.row (iis ys))) := by
 have hkl := aI hk
 refine dS aU sM xC xB (qE rfl) fun hb ha => aY ?_
 obtain ⟨n,en⟩ : ∃ n,n = xs.length := ⟨_,rfl⟩
 rw [← en] at hn ⊢
 simp only [go_sem,mf155,ii]
 refine ⟨(by unfold I64; omega),?_⟩
 have hset : h = h.set k (some (.row (iis xs))) := (List.ext_getElem? fun i => by
  by_cases e : k = i
  · subst e; rw [qF hkl]; exact hk
  · rw [qB e])
 refine cD (S := Nat × List Int) (F := fun s => [(0,.sl (.own k 0) n 1 f),(1,.int .i64 0),(2,.int .i64 n),(6,.int .i64 s.1)])
  (H := fun s => h.set k (some (.row (iis s.2)))) (meas := fun s => n + 1 - s.1)
  (Inv := fun s => 1 ≤ s.1 ∧ s.1 ≤ max 1 n ∧ s.2.Perm xs ∧ srt s.2 s.1) (1,xs) ⟨Nat.le_refl _,by omega,List.Perm.refl _,fun p q x y h1 h2 => by omega⟩ rfl (by rw [List.append_nil]; exact hset) ?_
 rintro ⟨i,ys⟩ ⟨i1,i2,ip,is⟩ ih
 simp only at i1 i2 ip is ih
 refine aV aU tZ [0,1,2,6] L155_1.eq_1 ?_
 by_cases hin : i < n
 · have e1 : (i : Int) < n := by omega
   simp only [go_sem,e1]
   refine cD (S := Nat × List Int) (F := fun s => [(0,.sl (.own k 0) n 1 f),(1,.int .i64 0),(2,.int .i64 n),(6,.int .i64 i),(7,.int .i64 s.1)])
    (H := fun s => h.set k (some (.row (iis s.2)))) (meas := fun s => s.1)
    (Inv := fun s => s.1 ≤ i ∧ s.2.Perm xs ∧ srt1 s.2 i s.1) (i,ys) ⟨Nat.le_refl _,ip,fun p q x y h1 h2 h3 => is p q x y h1 (by omega)⟩ rfl rfl ?_
   rintro ⟨j,zs⟩ ⟨j1,jp,js⟩ ih2
   simp only at j1 jp js ih2
   have hzl : zs.length = n := by rw [jp.length_eq,en]
   refine aV aU aC5 [0,1,2,6,7] L155_0.eq_1 ?_
   have hget : (h.set k (some (.row (iis zs))))[k]? = some (some (.row (iis zs))) := qF hkl
   have done : srt zs (i + 1) → I64 ((i : Int) + 1) ∧ lp Tryz.prog w0 none 49 (List.length h) (zX w0 [] fun v h' => ∃ h1 k_1,h' = h1 ++ k_1 ∧ List.length h ≤ List.length h1 ∧ HB h1 ∧ AV.bdd (List.length h1) v ∧ v = AV.tup [] ∧ ∃ ys,ys.Perm xs ∧ srt ys n ∧ h1 = List.set h k (some (Blk.row (iis ys)))) L155_1 [It.inBlk 0]
    [(0,.sl (.own k 0) n 1 f),(1,.int .i64 0),(2,.int .i64 n),(6,.int .i64 ((i : Int) + 1))] (h.set k (some (.row (iis zs)))) := fun hs =>
    ⟨(by unfold I64; omega),by simpa using ih (i + 1,zs) ⟨by simp only; omega,by simp only; omega,jp,hs⟩ (by simp only; omega)⟩
   by_cases hj : 0 < j
   · have e2 : (j : Int) > 0 := by omega
     obtain ⟨u,hu⟩ : ∃ u,zs[j - 1]? = some u := ⟨_,qA (by omega)⟩
     obtain ⟨v,hv⟩ : ∃ v,zs[j]? = some v := ⟨_,qA (by omega)⟩
     have ix1 : eQ 1 (.sl (.own k 0) n 1 f) (some j) = some (.ptr (.own k j)) := by simp [eQ,gB,Pl.add,show j < n by omega]
     have ix2 : eQ 1 (.sl (.own k 0) n 1 f) (some (j - 1)) = some (.ptr (.own k (j - 1))) := by simp [eQ,gB,Pl.add,show j - 1 < n by omega]
     have ej : (j : Int) - 1 = ((j - 1 : Nat) : Int) := by omega
     have ew : wi ((j - 1 : Nat) : Int) = ((j - 1 : Nat) : Int) := wH (by unfold I64; omega)
     have ei : (if (0 : Int) ≤ ((j - 1 : Nat) : Int) then some (((j - 1 : Nat) : Int)).toNat else none) = some (j - 1) := by rw [if_pos (by omega),Int.toNat_natCast]
     simp only [go_sem,e2,ix1,ix2,ej,ew,ei,hget,mD hu,mD hv]
     refine aK (less_c v u).v ?_
     simp only [go_sem]
     refine ⟨fun hvu => ?_,fun hvu => ?_⟩
     · have hvu : v < u := by simpa using hvu
       have hjl : j + 1 ≤ (iis zs).length := by simp [iis]; omega
       have hjl2 : j - 1 + 1 ≤ (iis (zs.set j u)).length := by simp [iis]; omega
       have hg2 : (h.set k (some (.row (iis (zs.set j u)))))[k]? = some (some (.row (iis (zs.set j u)))) := qF hkl
       simp only [go_sem,ei,ix1,ix2,ej,ew,hget,mD hu,mD hv,hjl]
       rw [rN (by omega),yJ,List.set_set]
       simp only [go_sem,hg2,hjl2,ej,ew]
       rw [rN (by omega),yJ,List.set_set]
       have := ih2 (j - 1,swp zs j u v) ⟨by simp only; omega,(aAX hj hu hv).trans jp,aAZ js hj j1 (by omega) hu hv hvu⟩ (by simp only; omega)
       exact this
     · have hvu : ¬ v < u := by simpa using hvu
       exact done (wI js (.inr ⟨u,v,hu,hv,by omega⟩))
   · have e2 : ¬ (j : Int) > 0 := by omega
     simp only [go_sem,e2]
     exact done (wI js (.inl (by omega)))
 · have e1 : ¬ (i : Int) < n := by omega
   simp only [go_sem,e1]
   refine ⟨_,[],(List.append_nil _).symm,by simp,vZ hb hkl,trivial,ys,ip,?_,rfl⟩
   intro p q x y h1 h2 h3 h4
   exact is p q x y h1 (by omega) h3 h4
theorem len_c (n : Nat) (hn : n < 256) : ACall Tryz.prog w0 154 [.int .u64 n] h fun v H => (∃ k,v = .int .i64 k) ∧ H = h := by
 refine dS aU aBL aEA aEz (qE rfl) fun hb ha => aY ?_
 simp only [go_sem,mf154]
 refine aW (ACall.vc (first := []) (args := [_]) (aFQ n hn)) ?_
 rintro _ _ ⟨⟨k,rfl⟩,rfl⟩
 simp only [go_sem]
 exact ⟨h,[],by simp,Nat.le_refl _,hb,trivial,⟨k,rfl⟩,rfl⟩
theorem pdq_c {k : Nat} {xs : List Int} {f : Bool} {q : Int} (hk : h[k]? = some (some (.row (iis xs)))) (hn : xs.length ≤ 12) :
 ACall Tryz.prog w0 153 [.sl (.own k 0) xs.length 1 f,.int .i64 0,.int .i64 xs.length,.int .i64 q] h fun v H => v = .tup [] ∧ ∃ ys,ys.Perm xs ∧ srt ys xs.length ∧ H = h.set k (some (.row (iis ys))) := by
 have hkl := aI hk
 refine dS aU sN xE xD (qE rfl) fun hb ha => aY ?_
 simp only [go_sem,mf153]
 refine aV aU uA [0,1,2,3,8,9] L153_0.eq_1 ?_
 have e1 : (xs.length : Int) - 0 = xs.length := by omega
 have e2 : (xs.length : Int) ≤ 12 := by omega
 have e3 : wi (xs.length : Int) = xs.length := wH (by unfold I64; omega)
 simp only [go_sem,e1,e2,e3]
 rw [List.append_nil]
 refine aW (ACall.vc (first := []) (args := [_,_,_]) (aFU hk (by omega))) ?_
 rintro _ _ ⟨rfl,ys,y1,y2,rfl⟩
 simp only [go_sem]
 exact ⟨_,[],(List.append_nil _).symm,by simp,vZ hb hkl,trivial,ys,y1,y2,rfl⟩
theorem Sort_c {k : Nat} {xs : List Int} {f : Bool} (hk : h[k]? = some (some (.row (iis xs)))) (hn : xs.length ≤ 12) :
 ACall Tryz.prog w0 150 [.sl (.own k 0) xs.length 1 f] h fun v H => v = .tup [] ∧ ∃ ys,ys.Perm xs ∧ srt ys xs.length ∧ H = h.set k (some (.row (iis ys))) := by
 have hkl := aI hk
 refine dS aU sO xG xF (qE rfl) fun hb ha => aY ?_
 simp only [go_sem,mf150]
 rw [List.append_nil]
 have e1 : cF .u64 (xs.length : Int) = some (.int .u64 xs.length) := by
  rw [cF,if_pos]
  simp [inK,IntKind.min,IntKind.max,IntKind.bits,IntKind.signed]; omega
 simp only [go_sem,e1]
 refine aW (ACall.vc (first := []) (args := [_]) (len_c xs.length (by omega))) ?_
 rintro _ _ ⟨⟨q,rfl⟩,rfl⟩
 simp only [go_sem]
 refine aW (ACall.vc (first := []) (args := [_,_,_,_]) (pdq_c hk hn)) ?_
 rintro _ _ ⟨rfl,ys,y1,y2,rfl⟩
 simp only [go_sem]
 exact ⟨_,[],(List.append_nil _).symm,by simp,vZ hb hkl,trivial,ys,y1,y2,rfl⟩
theorem keysOk : KOk Tryz.prog 203 157 3 4 := ⟨by kernel_rfl,by kernel_rfl,by kernel_rfl,by kernel_rfl,by kernel_rfl,⟨3,4,by kernel_rfl⟩⟩
theorem keys_b : (Tryz.prog.funcs[151]?).bind (·.body) = some (kCode 203 157 3 4) := by kernel_rfl
theorem keys_r : ((Tryz.prog.funcs[151]?).map fun fn => (fn.results.toList.mapM (crv Tryz.prog),fn.ntmps)) = some (some [],14) := by kernel_rfl
theorem keys_h : aB Tryz.prog 151 = true := by kernel_rfl
def GI (h0 : aA) (n0 : Nat) (lb : Blk) (ps : List AV) (G : aA) : Prop :=
 ∃ sv io,n0 + 1 < io ∧ n0 + 1 < G.length ∧ G[n0]? = some (some (.row [sv])) ∧ G[n0 + 1]? = some (some lb) ∧ Gr2 G 1 ps.length io sv ps ∧ aF h0 G
theorem tV {p : Pl} {mi : Nat} {es : List (AV × AV)} (hp : rd w0 h p = some (.map mi)) (hm : h[mi]? = some (some (.map es))) (hk : ∀ e ∈ es,∃ n,e.1 = .int .i64 n) (hn : es.length ≤ 12) :
 ACall Tryz.prog w0 152 [.nilS,.fn (.func 151) [] [.ptr p]] h fun v H => ∃ ks io,ks.Perm (es.map (·.1)) ∧ Gr2 H 1 ks.length io v ks ∧ aF (h.set mi none) H ∧ h.length < io := by
 have hml := aI hm
 refine bA aU aBM aEC aEB (qE rfl) fun hb ha => aY ?_
 simp only [go_sem,mf152]
 refine wN [2,6] ?_
 simp only [go_sem]
 refine aBl (fid := 151) (first := []) rfl (.inl rfl) fun hca hcb hps => ?_
 simp only [go_sem]
 obtain ⟨LB,hLB⟩ : ∃ LB : LoopState → Option Code → Blk,LB = Blk.loop 13 [(2,AV.ptr (Pl.own (List.length h) 0)),(6,AV.fn (Fn.func 151) [] [AV.ptr p])] #[7] (bO (cZ 152) [1,0,1,0,0]) (bO (cZ 152) [1,0,1,0,1]) := ⟨_,rfl⟩
 have hp' : rd w0 (h ++ [some (.row [.nilS]),some (LB .ready none)]) p = some (.map mi) := eW hp
 have hm' : (h ++ [some (Blk.row [AV.nilS]),some (LB .ready none)])[mi]? = some (some (.map es)) := aC hm
 rw [← hLB]
 refine aAg keysOk keys_b keys_r keys_h hp' hm' (fun e he => ⟨_,hk e he⟩) (I := GI (h.set mi none) h.length (LB .ready none)) ⟨.nilS,h.length + 2,by omega,by simp,?_,?_,.inl ⟨rfl,rfl,rfl⟩,?_⟩ ?_ ?_
 · rw [List.set_append_left _ _ hml,qI (by simp)]; simp
 · rw [List.set_append_left _ _ hml,qI (by simp)]; simp
 · rw [List.set_append_left _ _ hml]; exact aF.refl.app
 · rintro ps k G ⟨q,hq⟩ ⟨sv,io,g1,g2,g3,g4,g5,g6⟩
   obtain ⟨x,rfl⟩ : ∃ x,k = .int .i64 x := by
    have : k ∈ es.map (·.1) := hq.mem_iff.1 (by simp)
    obtain ⟨e,he,rfl⟩ := List.mem_map.1 this
    exact hk e he
   have hpl : ps.length < 13 := by have := hq.length_eq; simp at this; omega
   have g4' := g4
   rw [hLB] at g4'
   refine uH (pF (psl := [7]) aU rfl aAN aAM rE.eq_1 rD.eq_1 g4' rfl hps hca hcb fun hb2 ha2 => ?_)
   simp only [go_sem]
   refine ⟨g4',?_⟩
   have a1 : (G.set (h.length + 1) (some (Blk.loop 13 [(2,AV.ptr (Pl.own (List.length h) 0)),(6,AV.fn (Fn.func 151) [] [AV.ptr p])] #[7] (bO (cZ 152) [1,0,1,0,0]) (bO (cZ 152) [1,0,1,0,1]) .busy none)))[h.length]? = some (some (.row [sv])) := by rw [qB (by omega)]; exact g3
   simp only [go_sem,a1]
   obtain ⟨LY,hLY⟩ : ∃ b,b = Blk.loop 13 [(2,AV.ptr (Pl.own (List.length h) 0)),(6,AV.fn (Fn.func 151) [] [AV.ptr p])] #[7] (bO (cZ 152) [1,0,1,0,0]) (bO (cZ 152) [1,0,1,0,1]) .busy none := ⟨_,rfl⟩
   rw [← hLY] at a1 ⊢
   obtain ⟨X,hX⟩ : ∃ X,X = G.set (h.length + 1) (some LY) ++ [some (Blk.row [AV.int .i64 x])] := ⟨_,rfl⟩
   have lX : X.length = G.length + 1 := by rw [hX]; simp
   have gX : ∀ i b,i ≠ h.length + 1 → G[i]? = some (some b) → X[i]? = some (some b) := fun i b hi e => by rw [hX]; exact aC (by rw [qB (fun e => hi e.symm)]; exact e)
   have gY : X[h.length + 1]? = some (some LY) := by rw [hX]; exact aC (qF g2)
   have gZ : X[G.length]? = some (some (.row [.int .i64 x])) := by rw [hX,qI (by simp)]; simp
   have gr : Gr2 X 1 ps.length io sv ps := by
    rcases g5 with h1 | ⟨h1,h2,h3,h4⟩
    · exact .inl h1
    · exact .inr ⟨h1,h2,gX _ _ (by omega) h3,h4⟩
   obtain ⟨G2,q1,q2,q3,q4⟩ := gr.more (w0 := w0) (b := 8) (f := true) gZ rfl rfl (by omega) (by omega)
   have gk : ∀ i b,i ≠ io → i < X.length → X[i]? = some (some b) → G2[i]? = some (some b) := fun i b hi hl e => by
    have e1 : (mk ps.length io X)[i]? = some (some b) := by
     unfold mk
     split
     · exact e
     · rw [qB (fun e => hi e.symm)]; exact e
    have e2 := q3.2 i b e1
    rw [mk,if_neg (by omega),qB (by omega)] at e2
    exact e2
   rw [← hX,q1]
   have b1 := gk _ _ (by omega) (by omega) (gX _ _ (by omega) g3)
   have b2 := gk _ _ (by omega) (by omega) gY
   have b3 : (G2.set h.length (some (.row [.sl (.own X.length 0) (ps.length + 1) 1 false])))[h.length + 1]? = some (some LY) := by rw [qB (by omega)]; exact b2
   simp only [go_sem,b1,b3]
   rw [hLY]
   simp only [go_sem]
   rw [hLB]
   refine ⟨.sl (.own X.length 0) (ps.length + 1) 1 false,X.length,by omega,by simp; omega,?_,?_,?_,?_⟩
   · rw [qB (by omega),qF (by omega)]
   · rw [qF (by simp; omega)]
   · rw [List.length_append]
     rcases q2 with h1 | ⟨h1,h2,h3,h4⟩
     · exact absurd h1.1 (by omega)
     · exact .inr ⟨h1,h2,by rw [qB (by omega),qB (by omega)]; exact h3,h4⟩
   · refine aF.setR (aF.setR ⟨by rw [List.length_set]; have := g6.1; simp at this; omega,fun i b e => ?_⟩ (by simp)) (by simp)
     have hi := aI e
     rw [List.length_set] at hi
     exact gk _ _ (by omega) (by omega) (gX _ _ (by omega) (g6.2 i b e))
 · rintro ps G hq ⟨sv,io,g1,g2,g3,g4,g5,g6⟩
   rw [g4,hLB]
   have e1 : (G.set (h.length + 1) none)[h.length]? = some (some (.row [sv])) := by rw [qB (by omega)]; exact g3
   simp only [go_sem,e1]
   exact ⟨ps,io,hq,g5.mask (by omega),g6.setR (by simp),by omega⟩
end Go.Proofs.Ab
namespace Go.Proofs.Ab
open Go Go.Proofs
variable {w0 : World} {h : aA}
theorem Pl.rn_id {ρ : Nat → Nat} {N : Nat} (hρ : ∀ i,i < N → ρ i = i) {p : Pl} (hb : p.bdd N) : p.rn ρ = p := by
 cases p with
 | old a => rfl
 | own i o => simp only [Pl.bdd] at hb; simp [Pl.rn,hρ i hb]
mutual
theorem AV.rn_id {ρ : Nat → Nat} {N : Nat} (hρ : ∀ i,i < N → ρ i = i) : ∀ v : AV,v.bdd N → v.rn ρ = v
 | .agg l,hb => by simp only [AV.bdd] at hb; rw [AV.rn,AV.rns_id hρ l hb]
 | .tup l,hb => by simp only [AV.bdd] at hb; rw [AV.rn,AV.rns_id hρ l hb]
 | .ptr p,hb => by simp only [AV.bdd] at hb; rw [AV.rn,Pl.rn_id hρ hb]
 | .sl p _ _ _,hb => by simp only [AV.bdd] at hb; rw [AV.rn,Pl.rn_id hρ hb]
 | .map i,hb => by simp only [AV.bdd] at hb; rw [AV.rn,hρ i hb]
 | .yld i,hb => by simp only [AV.bdd] at hb; rw [AV.rn,hρ i hb]
 | .fn _ x y,hb => by simp only [AV.bdd] at hb; rw [AV.rn,AV.rns_id hρ x hb.1,AV.rns_id hρ y hb.2]
 | .ifc _ x,hb => by simp only [AV.bdd] at hb; rw [AV.rn,AV.rn_id hρ x hb]
 | .undef,_ | .int _ _,_ | .bool _,_ | .str _,_ | .nilP,_ | .nilS,_ | .nilM,_ | .nilF,_ | .nilI,_ => by simp only [AV.rn]
theorem AV.rns_id {ρ : Nat → Nat} {N : Nat} (hρ : ∀ i,i < N → ρ i = i) : ∀ l : List AV,AV.bdds N l → AV.rns ρ l = l
 | [],_ => rfl
 | x :: xs,hb => by simp only [AV.bdds] at hb; rw [AV.rns,AV.rn_id hρ x hb.1,AV.rns_id hρ xs hb.2]
end
theorem BRn.id {ρ : Nat → Nat} {N : Nat} (hρ : ∀ i,i < N → ρ i = i) {b : Blk} (hb : b.bdd N) : BRn ρ b b := by
 cases b with
 | row c => exact (AV.rns_id hρ c (aR.2 hb)).symm
 | map es =>
  simp only [BRn]
  conv => lhs; rw [← List.map_id es]
  exact List.map_congr_left fun e he => by rw [AV.rn_id hρ _ (hb e he).1,AV.rn_id hρ _ (hb e he).2]; rfl
 | loop nt fr ps a b st pd => exact ⟨⟨rfl,rfl,rfl,rfl,rfl,rfl⟩,fun t => AV.rn_id hρ _ (hb t)⟩
theorem HRn.row {h0 H : aA} {io : Nat} {c : List AV} (hb : HB h0) (s : aF h0 H) (hio : h0.length ≤ io) (hc : H[io]? = some (some (.row c))) (hcb : AV.bdds h0.length c) :
 HRn h0.length (fun i => if i = h0.length then io else i) H (h0 ++ [some (.row c)]) := by
 have hρ : ∀ i,i < h0.length → (if i = h0.length then io else i) = i := fun i hi => if_neg (by omega)
 have key : ∀ (i : Nat) b,(h0 ++ [some (Blk.row c)])[i]? = some (some b) → (i < h0.length ∧ h0[i]? = some (some b)) ∨ (i = h0.length ∧ b = .row c) := fun i b e => by
  have hi := aI e
  simp at hi
  by_cases h1 : i < h0.length
  · rw [qH h1] at e; exact .inl ⟨h1,e⟩
  · obtain rfl : i = h0.length := by omega
    rw [qI (Nat.le_refl _),Nat.sub_self] at e
    simp at e
    exact .inr ⟨rfl,e.symm⟩
 refine ⟨hρ,by simp,fun i b e => ?_,fun i j b c' hij hi hj => ?_⟩
 · rcases key i b e with ⟨h1,h2⟩ | ⟨rfl,rfl⟩
   · exact ⟨b,by simp only [hρ i h1]; exact s.2 i b h2,BRn.id hρ (hb i b h2),Blk.bdd_mono (by simp) (hb i b h2)⟩
   · exact ⟨.row c,by simp only [if_true]; exact hc,BRn.id hρ (aR.1 hcb),Blk.bdd_mono (by simp) (b := .row c) (aR.1 hcb)⟩
 · rcases key i b hi with ⟨h1,_⟩ | ⟨rfl,_⟩ <;> rcases key j c' hj with ⟨h2,_⟩ | ⟨rfl,_⟩
   · simp only [hρ i h1,hρ j h2]; exact hij
   · simp only [hρ i h1,if_true]; omega
   · simp only [hρ j h2,if_true]; omega
   · exact absurd rfl hij
theorem HRn.none {h0 H : aA} (hb : HB h0) (s : aF h0 H) : HRn h0.length (fun i => i) H h0 :=
 ⟨fun _ _ => rfl,Nat.le_refl _,fun i b e => ⟨b,s.2 i b e,BRn.id (fun _ _ => rfl) (hb i b e),hb i b e⟩,fun _ _ _ _ h _ _ => h⟩
end Go.Proofs.Ab
namespace Go.Proofs.Ab
open Go Go.Proofs
variable {w0 : World} {h : aA}
def vI (x : Int) : List Int → List Int
 | [] => [x]
 | y :: r => if x ≤ y then x :: y :: r else y :: vI x r
def gP : List Int → List Int
 | [] => []
 | x :: r => vI x (gP r)
theorem kW (x : Int) : ∀ l : List Int,(vI x l).Perm (x :: l)
 | [] => List.Perm.refl _
 | y :: r => by
  simp only [vI]
  split
  · exact List.Perm.refl _
  · exact ((kW x r).cons y).trans (List.Perm.swap x y r)
theorem mL : ∀ l : List Int,(gP l).Perm l
 | [] => List.Perm.refl _
 | x :: r => (kW x _).trans ((mL r).cons x)
theorem yI {x : Int} : ∀ {l : List Int},l.Pairwise (· ≤ ·) → (vI x l).Pairwise (· ≤ ·)
 | [],_ => by simp [vI]
 | y :: r,hl => by
  rw [List.pairwise_cons] at hl
  simp only [vI]
  split
  · rename_i hx
    rw [List.pairwise_cons,List.pairwise_cons]
    refine ⟨fun z hz => ?_,hl⟩
    rcases List.mem_cons.1 hz with rfl | hz
    · exact hx
    · exact Int.le_trans hx (hl.1 z hz)
  · rename_i hx
    rw [List.pairwise_cons]
    refine ⟨fun z hz => ?_,yI hl.2⟩
    rcases List.mem_cons.1 ((kW x r).mem_iff.1 hz) with rfl | hz
    · omega
    · exact hl.1 z hz
theorem rQ : ∀ {l : List Int},(gP l).Pairwise (· ≤ ·)
 | [] => List.Pairwise.nil
 | x :: r => yI rQ
theorem pw_eq : ∀ {a b : List Int},a.Perm b → a.Pairwise (· ≤ ·) → b.Pairwise (· ≤ ·) → a = b
 | [],b,p,_,_ => (List.Perm.nil_eq p)
 | x :: a,[],p,_,_ => by have := p.length_eq; simp at this
 | x :: a,y :: b,p,ha,hb => by
  rw [List.pairwise_cons] at ha hb
  have h1 : x ≤ y := by
   rcases List.mem_cons.1 (p.mem_iff.2 (List.mem_cons_self (a := y) (l := b))) with e | e
   · omega
   · exact ha.1 y e
  have h2 : y ≤ x := by
   rcases List.mem_cons.1 (p.mem_iff.1 (List.mem_cons_self (a := x) (l := a))) with e | e
   · omega
   · exact hb.1 x e
  obtain rfl : x = y := by omega
  rw [pw_eq (List.Perm.cons_inv p) ha.2 hb.2]
theorem srt_pw {ys : List Int} (hs : srt ys ys.length) : ys.Pairwise (· ≤ ·) := by
 rw [List.pairwise_iff_getElem]
 intro i j hi hj hij
 exact hs i j _ _ hij hj (qA hi) (qA hj)
theorem zN {ys ks : List Int} (hp : ys.Perm ks) (hs : srt ys ys.length) : ys = gP ks := pw_eq (hp.trans (mL ks).symm) (srt_pw hs) rQ
def kC (ks : List Int) (t : Int) : List Int := if t ∈ ks then ks else ks ++ [t]
def fI (ks : List Int) : List (AV × AV) := ks.map fun k => (.int .i64 k,.bool true)
theorem aCG {t : Int} : ∀ (ks : List Int) (a : Nat),(t ∉ ks ∧ fC (false,[true]) (.int .i64 t) (fI ks) a = some none) ∨ ∃ j,ks[j]? = some t ∧ fC (false,[true]) (.int .i64 t) (fI ks) a = some (some (a + j,.bool true))
 | [],a => .inl ⟨by simp,rfl⟩
 | k :: ks,a => by
  by_cases e : t = k
  · subst e
    exact .inr ⟨0,rfl,by simp [fI,fC,keq,cG,ceq]⟩
  · have e1 : fC (false,[true]) (.int .i64 t) (fI (k :: ks)) a = fC (false,[true]) (.int .i64 t) (fI ks) (a + 1) := by
     have e0 : (t == k) = false := by simpa using e
     simp [fI,fC,keq,cG,ceq,e0]
    rcases aCG (t := t) ks (a + 1) with ⟨h1,h2⟩ | ⟨j,h1,h2⟩
    · exact .inl ⟨by simp [e,h1],by rw [e1,h2]⟩
    · exact .inr ⟨j + 1,by simpa using h1,by rw [e1,h2,show a + 1 + j = a + (j + 1) by omega]⟩
theorem mput_E {i : Nat} {ks : List Int} {t : Int} (hi : h[i]? = some (some (.map (fI ks)))) : aBz h (false,[true]) (.map i) (.int .i64 t) (.bool true) = some (.undef,h.set i (some (.map (fI (kC ks t))))) := by
 simp only [aBz,hi]
 rw [if_neg (by simp [keq,cG,ceq])]
 rcases aCG (t := t) ks 0 with ⟨h1,h2⟩ | ⟨j,h1,h2⟩
 · rw [h2]; simp [kC,h1,fI]
 · rw [h2]
   have hm : t ∈ ks := List.mem_of_getElem? h1
   have : (fI ks).set j (.int .i64 t,.bool true) = fI ks := by
    refine List.ext_getElem? fun q => ?_
    by_cases e : j = q
    · subst e
      rw [qF (by simp [fI]; exact aI h1)]
      simp [fI,h1]
    · rw [qB e]
   simp [kC,hm,this]
theorem aCy {ks : List Int} {t x : Int} : x ∈ kC ks t ↔ x ∈ ks ∨ x = t := by
 unfold kC; split
 · rename_i h; exact ⟨.inl,fun e => e.elim id fun e => e ▸ h⟩
 · simp
theorem vH {ks : List Int} {t : Int} (h : ks.Nodup) : (kC ks t).Nodup := by
 unfold kC; split
 · exact h
 · rename_i hn
   rw [List.nodup_append]
   exact ⟨h,by simp,fun a ha b hb e => by simp at hb; subst hb; subst e; exact hn ha⟩
theorem aCz {ks : List Int} {t : Int} : (kC ks t).length ≤ ks.length + 1 := by unfold kC; split <;> simp
def hJ (l : List Int) : List Int := l.foldl kC []
theorem foldK {l : List Int} : ∀ {ks : List Int},ks.Nodup → (l.foldl kC ks).Nodup ∧ (∀ x,x ∈ l.foldl kC ks ↔ x ∈ ks ∨ x ∈ l) ∧ (l.foldl kC ks).length ≤ ks.length + l.length := by
 induction l with
 | nil => intro ks h; exact ⟨h,by simp,by simp⟩
 | cons t l ih =>
  intro ks h
  obtain ⟨h1,h2,h3⟩ := ih (vH (t := t) h)
  refine ⟨h1,fun x => ?_,?_⟩
  · rw [List.foldl_cons,h2,aCy,List.mem_cons,or_assoc]
  · rw [List.foldl_cons,List.length_cons]; have := aCz (ks := ks) (t := t); omega
def timesI (l : List Int) : List Int := gP (hJ l)
end Go.Proofs.Ab
namespace Go.Proofs.Ab
open Go Go.Proofs
variable {w0 : World} {h : aA}
attribute [local irreducible] ACall bF cU aZ dN rvC lp rg dr ex un rv
theorem aFT : ACall Tryz.prog w0 155 [.nilS,.int .i64 0,.int .i64 0] h fun v H => v = .tup [] ∧ H = h := by
 refine dS aU sM xC xB (qE rfl) fun hb ha => aY ?_
 simp only [go_sem,mf155]
 refine ⟨(by unfold I64; omega),?_⟩
 refine aV aU tZ [0,1,2,6] L155_1.eq_1 ?_
 have e1 : ¬ (1 : Int) < 0 := by omega
 simp only [go_sem,e1]
 exact ⟨h,[],by simp,Nat.le_refl _,hb,trivial,rfl⟩
theorem pdq_n {q : Int} : ACall Tryz.prog w0 153 [.nilS,.int .i64 0,.int .i64 0,.int .i64 q] h fun v H => v = .tup [] ∧ H = h := by
 refine dS aU sN xE xD (qE rfl) fun hb ha => aY ?_
 simp only [go_sem,mf153]
 refine aV aU uA [0,1,2,3,8,9] L153_0.eq_1 ?_
 have e1 : (0 : Int) - 0 = 0 := by omega
 have e2 : (0 : Int) ≤ 12 := by omega
 simp only [go_sem,e1,e2]
 rw [List.append_nil]
 refine aW (ACall.vc (first := []) (args := [_,_,_]) aFT) ?_
 rintro _ _ ⟨rfl,rfl⟩
 simp only [go_sem]
 exact ⟨_,[],by simp,Nat.le_refl _,hb,trivial,rfl⟩
theorem Sort_n : ACall Tryz.prog w0 150 [.nilS] h fun v H => v = .tup [] ∧ H = h := by
 refine dS aU sO xG xF (qE rfl) fun hb ha => aY ?_
 simp only [go_sem,mf150]
 rw [List.append_nil]
 have e1 : cF .u64 0 = some (.int .u64 ((0 : Nat) : Int)) := rfl
 simp only [go_sem,e1]
 refine aW (ACall.vc (first := []) (args := [_]) (len_c 0 (by omega))) ?_
 rintro _ _ ⟨⟨q,rfl⟩,rfl⟩
 simp only [go_sem]
 refine aW (ACall.vc (first := []) (args := [_,_,_,_]) pdq_n) ?_
 rintro _ _ ⟨rfl,rfl⟩
 simp only [go_sem]
 exact ⟨_,[],by simp,Nat.le_refl _,hb,trivial,rfl⟩
theorem aAA {p : Pl} {mi : Nat} {es : List (AV × AV)} (hp : rd w0 h p = some (.map mi)) (hm : h[mi]? = some (some (.map es))) (hk : ∀ e ∈ es,∃ n,e.1 = .int .i64 n) (hn : es.length ≤ 12) :
 ACall Tryz.prog w0 149 [.fn (.func 151) [] [.ptr p]] h fun v H => ∃ ks io,ks.Perm (es.map (·.1)) ∧ Gr2 H 1 ks.length io v ks ∧ aF (h.set mi none) H ∧ h.length < io := by
 refine bA aU aBN aEF aEE (qE rfl) fun hb ha => aY ?_
 simp only [go_sem,mf149]
 rw [List.append_nil]
 refine aW (ACall.vc (first := []) (args := [_,_]) (tV hp hm hk hn)) ?_
 rintro v H hH
 simp only [go_sem]
 exact hH
def slO (n0 : Nat) (ys : List Int) : AV := if ys = [] then .nilS else .sl (.own n0 0) ys.length 1 false
def blO (ys : List Int) : Option Blk := if ys = [] then none else some (.row (iis ys))
theorem aA1 {p : Pl} {mi : Nat} {ks : List Int} (hp : rd w0 h p = some (.map mi)) (hm : h[mi]? = some (some (.map (fI ks)))) (hn : ks.length ≤ 12) :
 ACall Tryz.prog w0 141 [.fn (.func 151) [] [.ptr p]] h fun v H => v = slO h.length (gP ks) ∧ H = h.set mi none ++ [blO (gP ks)] := by
 have hml := aI hm
 refine ACall.rn (bA aU aBT aER aEQ (qE rfl) fun hb ha => aY ?_)
 have hb0 : HB (h.set mi none) := fun i b e => by rw [List.length_set]; exact hb i b (dL i b e)
 simp only [go_sem,mf141]
 rw [List.append_nil]
 refine aW (ACall.vc (first := []) (args := [_]) (aAA hp hm (fun e he => by
  simp only [fI,List.mem_map] at he
  obtain ⟨k,_,rfl⟩ := he
  exact ⟨k,rfl⟩) (by simpa [fI] using hn))) ?_
 rintro v H ⟨kl,io,k1,k2,k3,k4⟩
 obtain ⟨xs,rfl⟩ : ∃ xs,kl = iis xs := by
  have : ∀ l : List AV,(∀ x ∈ l,∃ n,x = ii n) → ∃ xs,l = iis xs := fun l => by
   induction l with
   | nil => exact fun _ => ⟨[],rfl⟩
   | cons x l ih =>
    intro hx
    obtain ⟨n,rfl⟩ := hx x (by simp)
    obtain ⟨xs,rfl⟩ := ih fun y hy => hx y (by simp [hy])
    exact ⟨n :: xs,rfl⟩
  refine this kl fun x hx => ?_
  have := k1.mem_iff.1 hx
  simp only [fI,List.map_map,List.mem_map] at this
  obtain ⟨n,_,rfl⟩ := this
  exact ⟨n,rfl⟩
 have kp : xs.Perm ks := by
  have : (iis xs).Perm (iis ks) := by
   rw [show (fI ks).map (·.1) = iis ks by simp only [fI,iis,List.map_map]; rfl] at k1
   exact k1
  have f : List.Perm ((iis xs).map fun x => match x with | .int _ n => n | _ => 0) ((iis ks).map fun x => match x with | .int _ n => n | _ => 0) := this.map _
  simpa [iis,ii,Function.comp_def] using f
 have hxl : (iis xs).length = xs.length := by simp [iis]
 rw [hxl] at k2
 have hsl : aF (h.set mi none) H := k3
 have hle : h.length ≤ H.length := by have := k3.1; simpa using this
 rcases k2 with ⟨k5,rfl,_⟩ | ⟨k5,rfl,k6,_⟩
 · obtain rfl : xs = [] := List.length_eq_zero_iff.1 k5
   obtain rfl : ks = [] := (List.Perm.nil_eq kp).symm
   simp only [go_sem]
   refine aW (ACall.vc (first := []) (args := [_]) Sort_n) ?_
   rintro _ _ ⟨rfl,rfl⟩
   simp only [go_sem]
   refine ⟨fun i => i,.nilS,h.set mi none ++ [none],?_,rfl,trivial,rfl,rfl⟩
   have := HRn.none hb0 hsl
   rw [List.length_set] at this
   refine ⟨fun _ _ => rfl,by simp,fun i b e => ?_,fun _ _ _ _ hne _ _ => hne⟩
   have hi := aI e
   simp at hi
   by_cases h1 : i < h.length
   · rw [qH (by simpa using h1)] at e
     obtain ⟨b',e1,e2,e3⟩ := this.at_ i b e
     exact ⟨b',e1,e2,Blk.bdd_mono (by simp) e3⟩
   · obtain rfl : i = h.length := by omega
     rw [qI (by simp)] at e
     simp at e
 · simp only [go_sem]
   refine aW (ACall.vc (first := []) (args := [_]) (Sort_c k6 (by rw [kp.length_eq]; exact hn))) ?_
   rintro _ _ ⟨rfl,ys,y1,y2,rfl⟩
   simp only [go_sem]
   have hyl := y1.length_eq
   have hys : ys = gP ks := zN (y1.trans kp) (by rw [hyl]; exact y2)
   have hio := aI k6
   have hne : gP ks ≠ [] := by rw [← hys]; intro e; rw [e] at hyl; simp at hyl; exact k5 hyl.symm
   have hH : aF (h.set mi none) (H.set io (some (.row (iis ys)))) := hsl.setR (by simp; omega)
   have := HRn.row (io := io) (c := iis ys) hb0 hH (by simp; omega) (by rw [qF hio]) (aR.2 fun x hx => by
    simp only [iis,List.mem_map] at hx
    obtain ⟨n,_,rfl⟩ := hx
    exact trivial)
   rw [List.length_set] at this
   refine ⟨_,slO h.length (gP ks),h.set mi none ++ [blO (gP ks)],by rw [blO,if_neg hne,← hys]; exact this,?_,?_,rfl,rfl⟩
   · rw [slO,if_neg hne,← hys,← hyl]
     simp [AV.rn,Pl.rn]
   · rw [slO,if_neg hne]; simp [AV.bdd,Pl.bdd]
structure iE where
 cl : Int
 ch : Int
 gl : Int
 gh : Int
@[go_sem] def iE.c (s : iE) : List AV := [.int .i64 s.cl,.int .i64 s.ch,.int .i64 s.gl,.int .i64 s.gh]
@[simp] theorem iE.c_bdd (N : Nat) (s : iE) : AV.bdds N s.c := by simp [iE.c,AV.bdds,AV.bdd]
theorem keys_c {i : Nat} : ACall Tryz.prog w0 142 [.map i] h fun v H => v = .fn (.func 151) [] [.ptr (.own h.length 0)] ∧ H = h ++ [some (.row [.map i])] := by
 refine bA aU aBS aEP aEO (qE rfl) fun hb ha => aY ?_
 simp only [go_sem,mf142]
theorem aAW {v : AV} (hv : cellsOf v = some [v]) : ACall Tryz.prog w0 140 [v] h fun y H => y = .fn (.func 148) [] [.ptr (.own h.length 0)] ∧ H = h ++ [some (.row [v])] := by
 refine bA aU aBU aET aES (qE rfl) fun hb ha => aY ?_
 simp only [go_sem,mf140,hv]
def mG (l : List iE) : List Int := timesI (l.map (·.cl))
theorem aAB {v : AV} {l : List iE} (hv : Sl w0 h 4 v (l.map iE.c)) (hn : l.length ≤ 12) :
 ACall Tryz.prog w0 117 [v] h fun y H => y = .fn (.func 148) [] [.ptr (.own (h.length + 1) 0)] ∧ H = h ++ [blO (mG l),some (.row [slO h.length (mG l)])] := by
 refine ACall.rn (bA aU aCa aFp aFo (qE rfl) fun hb ha => aY ?_)
 obtain ⟨hlen,q,hix,hrow,_⟩ := hv.use
 rw [List.length_map] at hlen hix
 have vb := hv.bdd (Nat.le_refl _)
 simp only [go_sem,mf117,hlen]
 have hks : ∀ j,j < l.length → ∃ s,l[j]? = some s ∧ hJ ((l.take (j + 1)).map (·.cl)) = kC (hJ ((l.take j).map (·.cl))) s.cl := fun j hj => by
  refine ⟨l[j],qA hj,?_⟩
  rw [List.take_succ_eq_append_getElem hj,List.map_append,hJ,List.foldl_append]
  rfl
 have hkl : ∀ j,(hJ ((l.take j).map (·.cl))).length ≤ l.length := fun j => by
  have := (foldK (l := (l.take j).map (·.cl)) (ks := []) List.nodup_nil).2.2
  rw [List.length_map,List.length_take,List.length_nil] at this
  exact Nat.le_trans this (by omega)
 have hbE : ∀ {N : Nat} (ks : List Int),Blk.bdd N (.map (fI ks)) := fun ks e he => by
  simp only [fI,List.mem_map] at he
  obtain ⟨k,_,rfl⟩ := he
  exact ⟨trivial,trivial⟩
 refine cD (S := Nat) (F := fun j => [(3,.map h.length),(7,v),(8,.int .i64 l.length),(9,.int .i64 j)]) (H := fun j => h ++ [some (.map (fI (hJ ((l.take j).map (·.cl)))))]) (meas := fun j => l.length - j) (Inv := fun j => j ≤ l.length) 0 (Nat.zero_le _) rfl (by simp [hJ,fI]) ?_
 intro j hj ih
 refine aV aU aDa [3,7,8,9] L117_0.eq_1 ?_
 by_cases hjl : j < l.length
 · have e1 : (j : Int) < l.length := by omega
   obtain ⟨s,hs,hk⟩ := hks j hjl
   have e2 := hix j hjl
   have e3 : ∀ L,rdn w0 (h ++ L) (q.add (j * 4)) 4 = some s.c := fun L => dU (hrow j _ (by rw [List.getElem?_map,hs]; rfl))
   simp only [go_sem,e1,e2,e3]
   rw [mput_E (ks := hJ ((l.take j).map (·.cl))) (by rw [qI (Nat.le_refl _),Nat.sub_self]; rfl),← hk,List.set_append_right _ _ (Nat.le_refl _),Nat.sub_self]
   simp only [go_sem]
   refine ⟨(by unfold I64; omega),?_⟩
   refine iN 1 hb (by simp [eA,eB,fD,fE,gN,fB,AV.bdds,AV.bdd,Pl.bdd,dA]; exact hbE _) (by simp [eA,eB,fD,fE,gN,fB,AV.bdds,AV.bdd,Pl.bdd,dA]; exact AV.bdd_mono (by omega) _ vb) ?_
   exact ih (j + 1) (by omega) (by omega)
 · have e1 : ¬ (j : Int) < l.length := by omega
   obtain rfl : j = l.length := by omega
   simp only [go_sem,e1]
   rw [List.take_length]
   have hK : (hJ (l.map (·.cl))).length ≤ 12 := by have := hkl l.length; rw [List.take_length] at this; omega
   refine aW (ACall.vc (first := []) (args := [_]) keys_c) ?_
   rintro _ _ ⟨rfl,rfl⟩
   simp only [go_sem]
   refine aW (ACall.vc (first := []) (args := [_]) (aA1 (mi := h.length) (ks := hJ (l.map (·.cl))) (by simp [rd]) (by simp) hK)) ?_
   rintro _ _ ⟨rfl,rfl⟩
   simp only [go_sem]
   refine aW (ACall.vc (first := []) (args := [_]) (aAW (by unfold slO; split <;> rfl))) ?_
   rintro _ _ ⟨rfl,rfl⟩
   simp only [go_sem]
   have hρ : ∀ i,i < h.length → (if i = h.length then h.length + 2 else if i = h.length + 1 then h.length + 3 else i) = i := fun i hi => by rw [if_neg (by omega),if_neg (by omega)]
   obtain ⟨ys,hys⟩ : ∃ ys,ys = mG l := ⟨_,rfl⟩
   have e2 : gP (hJ (l.map (·.cl))) = ys := by rw [hys]; rfl
   rw [e2,← hys]
   have get0 : ∀ (A B : Option Blk),(h ++ [A,B])[h.length]? = some A ∧ (h ++ [A,B])[h.length + 1]? = some B := fun A B => by
    rw [qI (Nat.le_refl _),qI (by omega)]
    simp
   have get1 : ∀ (A B C D : Option Blk),(h ++ [A,B,C,D])[h.length + 2]? = some C ∧ (h ++ [A,B,C,D])[h.length + 3]? = some D := fun A B C D => by
    rw [qI (by omega),qI (by omega)]
    simp
   have key : ∀ (i : Nat) b,(h ++ [blO ys,some (Blk.row [slO h.length ys])])[i]? = some (some b) → (i < h.length ∧ h[i]? = some (some b)) ∨ (i = h.length ∧ blO ys = some b) ∨ (i = h.length + 1 ∧ b = .row [slO h.length ys]) := fun i b e => by
    have hi := aI e
    simp at hi
    by_cases h1 : i < h.length
    · rw [qH h1] at e; exact .inl ⟨h1,e⟩
    · by_cases h2 : i = h.length
      · subst h2
        rw [(get0 _ _).1] at e
        exact .inr (.inl ⟨rfl,Option.some.inj e⟩)
      · obtain rfl : i = h.length + 1 := by omega
        rw [(get0 _ _).2] at e
        simp at e
        exact .inr (.inr ⟨rfl,e.symm⟩)
   refine ⟨fun i => if i = h.length then h.length + 2 else if i = h.length + 1 then h.length + 3 else i,_,_,⟨hρ,by simp,fun i b e => ?_,fun i j b c hij hi hj => ?_⟩,?_,?_,rfl,rfl⟩
   · rcases key i b e with ⟨h1,h2⟩ | ⟨rfl,h2⟩ | ⟨rfl,rfl⟩
     · exact ⟨b,by simp only [hρ i h1]; exact aC h2,BRn.id hρ (hb i b h2),Blk.bdd_mono (by simp) (hb i b h2)⟩
     · have hbb : ∀ N,b.bdd N := fun N => by
        unfold blO at h2
        split at h2
        · cases h2
        · cases h2
          exact aR.1 (aR.2 fun x hx => by
           simp only [iis,List.mem_map] at hx
           obtain ⟨n,_,rfl⟩ := hx
           exact trivial)
       exact ⟨b,by simp only [if_true]; rw [(get1 _ _ _ _).1,h2],BRn.id hρ (hbb _),hbb _⟩
     · refine ⟨.row [slO (h.length + 2) ys],by simp only [show h.length + 1 ≠ h.length by omega,if_false,if_true]; rw [(get1 _ _ _ _).2],?_,?_⟩
       · simp only [BRn,AV.rns,slO]
         split <;> simp [AV.rn,Pl.rn]
       · intro x hx
         simp only [List.mem_singleton] at hx
         subst hx
         unfold slO
         split
         · trivial
         · simp [AV.bdd,Pl.bdd]
   · have lt : ∀ (i : Nat) b,(h ++ [blO ys,some (Blk.row [slO h.length ys])])[i]? = some (some b) → i < h.length + 2 := fun i b e => by have := aI e; simpa using this
     have hi := lt i b hi
     have hj := lt j c hj
     split <;> split <;> (try split) <;> (try split) <;> omega
   · simp [AV.rn,AV.rns,Pl.rn]
   · simp [AV.bdd,AV.bdds,Pl.bdd]
end Go.Proofs.Ab

/- The own layer under the proofs of this seat, part I: what calls of the program come to on an abstract heap. No condition. -/
import Derived.Test.YtijiinmeodpanaaG
import Derived.Test.YtijiinmeodpanaaTab
set_option linter.unusedSimpArgs false
set_option linter.unusedVariables false
namespace Go.Proofs.Ab
open Go Go.Proofs
variable {w0 : World} {h : aA}
theorem aEX (rows : List (List AV)) {es : Nat} (full : Bool) {L : aA} (k : Nat) (hk : L[k]? = some (some (.row rows.flatten))) (hr : ∀ c ∈ rows,c.length = es) : Sl w0 (h ++ L) es (.sl (.own (h.length + k) 0) rows.length es full) rows := by
 have hkl : k < L.length := by
  rcases Nat.lt_or_ge k L.length with a | a
  · exact a
  · rw [List.getElem?_eq_none a] at hk; cases hk
 refine .inr ⟨_,full,⟨es,rfl,jW⟩,by simp [Pl.bdd]; exact hkl,fun j c hc => ?_⟩
 simp only [Pl.add,rdn]
 rw [qI (by omega),Nat.add_sub_cancel_left,hk]
 simp only [Nat.zero_add]
 have hlen : ∀ (rows : List (List AV)),(∀ c ∈ rows,c.length = es) → rows.flatten.length = rows.length * es := fun rows => by
  induction rows with
  | nil => intro _; simp
  | cons x xs ih => intro hx; simp [ih (fun c hc => hx c (by simp [hc])),hx x (by simp),Nat.add_mul]; omega
 have hjl := aF hc
 have key : ∀ (rows : List (List AV)) (j : Nat) c,(∀ c ∈ rows,c.length = es) → rows[j]? = some c → (rows.flatten.drop (j * es)).take es = c := fun rows => by
  induction rows with
  | nil => intro j c _ hc; simp at hc
  | cons x xs ih =>
   intro j c hx hc
   have hxl := hx x (by simp)
   cases j with
   | zero => simp at hc; subst hc; simp [← hxl]
   | succ j =>
    have := ih j c (fun c hc => hx c (by simp [hc])) (by simpa using hc)
    rw [List.flatten_cons,Nat.succ_mul,Nat.add_comm,← hxl,← List.drop_drop,List.drop_left,hxl]; exact this
 rw [if_pos (by rw [hlen rows hr]; calc j * es + es = (j + 1) * es := by rw [Nat.add_mul]; omega
                                        _ ≤ rows.length * es := Nat.mul_le_mul_right _ hjl),key rows j c hr hc]
theorem aQ {α : Type} {l : List α} {i : Nat} {x : α} (e : l[i]? = some x) : i < l.length := (List.getElem?_eq_some_iff.1 e).1
theorem Sl.lt {es : Nat} {v : AV} {rows : List (List AV)} (s : Sl w0 h es v rows) {j : Nat} (hj : j < rows.length) : ∃ p : Pl,fZ es v (some j) = some (.ptr p) ∧ ∀ L c,rows[j]? = some c → rdn w0 (h ++ L) p es = some c := by
 obtain ⟨_,p,h1,h2,_⟩ := s.use
 exact ⟨_,h1 j hj,fun L c hc => mP (h2 j c hc)⟩
def SlI (w0 : World) (h : aA) (v : AV) (l : List Int) : Prop := Sl w0 h 1 v (l.map fun z => [.int .i64 z])
theorem SlI.use {v : AV} {l : List Int} (s : SlI w0 h v l) : sC v = some (.int .i64 l.length) ∧ ∃ q : Pl,(∀ j,j < l.length → fZ 1 v (some j) = some (.ptr (q.add j))) ∧ ∀ j (hj : j < l.length) L,rd w0 (h ++ L) (q.add j) = some (.int .i64 l[j]) := by
 obtain ⟨ln,q,ix,row,_⟩ := Sl.use s
 simp only [List.length_map,Nat.mul_one] at ln ix row
 refine ⟨ln,q,ix,fun j hj L => ?_⟩
 have := eY (row j [.int .i64 l[j]] (by simp [hj])) (o := 0) (x := .int .i64 l[j]) rfl
 rw [show (q.add j).add 0 = q.add j by rw [Pl.add_add]; rfl] at this
 exact hU this
theorem zB {H : aA} {es b n io k : Nat} {ov : AV} {vs x : List AV} {f : Bool} (hov : n = 0 ∧ ov = .nilS ∧ vs = [] ∨ n ≠ 0 ∧ ov = .sl (.own io 0) n es false ∧ H[io]? = some (some (.row vs)) ∧ vs.length = n * es)
 (hk : H[k]? = some (some (.row x))) (hx : x.length = es) (ho : x.all one = true) (hb : b ≤ 1000000) (hn : n ≤ 1000000) :
 ∃ G,dS w0 H es b ov (.sl (.own k 0) 1 es f) = some (.sl (.own H.length 0) (n + 1) es false,G) ∧ G.length = H.length + 1 ∧ G[H.length]? = some (some (.row (vs ++ x))) ∧ ∀ (i : Nat) c,(n ≠ 0 → i ≠ io) → H[i]? = some (some c) → G[i]? = some (some c) := by
 have r1 : rdn w0 H (.own k 0) (1 * es) = some x := by
  simp only [rdn,hk]; simp [hx]; rw [← hx]; simp
 rcases hov with ⟨h1,h2,h3⟩ | ⟨h1,h2,h3,h4⟩
 · subst h1; subst h2; subst h3
   refine ⟨H ++ [some (.row x)],?_,by simp,by simp,fun i c _ e => aE e⟩
   simp only [dS,fK,jW,if_true,r1,Option.map_some,Option.bind_some]
   rw [if_neg (by omega),if_pos ⟨by omega,ho⟩]
   simp [eO]
 · have hlt := aQ h3
   have r2 : rdn w0 H (.own io 0) (n * es) = some vs := by
    simp only [rdn,h3]; simp [h4]; rw [← h4]; simp
   have hsz : (n + 1) * (b + 1) ≤ 2 ^ 40 := Nat.le_trans (Nat.mul_le_mul (show n + 1 ≤ 1000001 by omega) (show b + 1 ≤ 1000001 by omega)) (by decide)
   refine ⟨H.set io none ++ [some (.row (vs ++ x))],?_,by simp,by simp,fun i c hi e => ?_⟩
   · rw [h2]
     simp only [dS,fK,jW,if_true,r1,Option.map_some,Option.bind_some]
     rw [if_neg (by omega),if_pos ⟨trivial,hsz,ho⟩]
     simp only [Bool.false_eq_true,if_false,r2,Option.bind_some]
   · refine aE ?_
     rw [qB fun e2 => hi h1 e2.symm]; exact e
structure Gro (h H : aA) (es n : Nat) (ov : AV) (vs : List AV) : Prop where
 sub : aH h H
 own : n = 0 ∧ ov = .nilS ∧ vs = [] ∨ ∃ io,h.length ≤ io ∧ n ≠ 0 ∧ ov = .sl (.own io 0) n es false ∧ H[io]? = some (some (.row vs)) ∧ vs.length = n * es
theorem Gro.nil {H : aA} {es : Nat} (s : aH h H) : Gro h H es 0 .nilS [] := ⟨s,.inl ⟨rfl,rfl,rfl⟩⟩
theorem Gro.app {H L : aA} {es n : Nat} {ov : AV} {vs : List AV} (g : Gro h H es n ov vs) : Gro h (H ++ L) es n ov vs := by
 refine ⟨g.sub.app,?_⟩
 rcases g.own with h1 | ⟨io,h1,h2,h3,h4,h5⟩
 · exact .inl h1
 · exact .inr ⟨io,h1,h2,h3,aE h4,h5⟩
theorem Gro.more {H : aA} {es b n k : Nat} {ov : AV} {vs x : List AV} {f : Bool} (g : Gro h H es n ov vs) (hk : H[k]? = some (some (.row x))) (hx : x.length = es) (ho : x.all one = true) (hb : b ≤ 1000000) (hn : n ≤ 1000000) :
 ∃ G,dS w0 H es b ov (.sl (.own k 0) 1 es f) = some (.sl (.own H.length 0) (n + 1) es false,G) ∧ Gro h G es (n + 1) (.sl (.own H.length 0) (n + 1) es false) (vs ++ x) := by
 have hlen : vs.length = n * es := by
  rcases g.own with ⟨h1,_,h3⟩ | ⟨_,_,_,_,_,h5⟩
  · subst h1; subst h3; simp
  · exact h5
 have hov : ∃ io,(n ≠ 0 → h.length ≤ io) ∧ (n = 0 ∧ ov = .nilS ∧ vs = [] ∨ n ≠ 0 ∧ ov = .sl (.own io 0) n es false ∧ H[io]? = some (some (.row vs)) ∧ vs.length = n * es) := by
  rcases g.own with h1 | ⟨io,h1,h2,h3,h4,h5⟩
  · exact ⟨0,fun h => absurd h1.1 h,.inl h1⟩
  · exact ⟨io,fun _ => h1,.inr ⟨h2,h3,h4,h5⟩⟩
 obtain ⟨io,hio,hov⟩ := hov
 obtain ⟨G,e1,e2,e3,e4⟩ := zB (w0 := w0) (b := b) (f := f) hov hk hx ho hb hn
 have hs := g.sub
 refine ⟨G,e1,⟨⟨by have := hs.1; omega,fun i c e => e4 i c (fun h0 => by have := hio h0; have := aQ e; omega) (hs.2 i c e)⟩,.inr ⟨H.length,hs.1,by omega,rfl,e3,by rw [List.length_append,hlen,hx,Nat.succ_mul]⟩⟩⟩
theorem Gro.sl {H : aA} {es n : Nat} {ov : AV} {rows : List (List AV)} (g : Gro h H es n ov rows.flatten) (hr : ∀ c ∈ rows,c.length = es) (hn : n = rows.length) (hes : es ≠ 0) : Sl w0 H es ov rows := by
 rcases g.own with ⟨h1,h2,h3⟩ | ⟨io,h1,h2,h3,h4,h5⟩
 · refine .inl ⟨h2,?_⟩
   rw [hn] at h1; exact List.eq_nil_of_length_eq_zero h1
 · subst h3
   have hlt := aQ h4
   have e : H = H.take io ++ H.drop io := (List.take_append_drop io H).symm
   have hl : (H.take io).length = io := by rw [List.length_take]; omega
   have := aEX (w0 := w0) (h := H.take io) rows (es := es) false (L := H.drop io) 0 (by rw [List.getElem?_drop,Nat.add_zero]; exact h4) hr
   rw [← e,hl,Nat.add_zero,← hn] at this
   exact this
theorem kK (l : List Int) : bJ l = (l.map fun z => [AV.int .i64 z]).flatten := by
 induction l with
 | nil => rfl
 | cons a l ih => simp [bJ] at ih ⊢; exact ih
theorem Gro.sli {H : aA} {n : Nat} {ov : AV} {l : List Int} (g : Gro h H 1 n ov (bJ l)) (hn : n = l.length) : SlI w0 H ov l := by
 rw [kK] at g
 exact g.sl (by simp) (by simpa using hn) (by omega)
theorem aES {H : aA} {es b : Nat} {rows : List (List AV)} {y : AV} (s : Sl w0 H es y rows) (hr : rows ≠ []) (ho : ∀ c ∈ rows,c.all one = true) (hb : b ≤ 1000000) (hn2 : rows.length ≤ 1000000) :
 dS w0 H es b .nilS y = some (.sl (.own H.length 0) rows.length es false,H ++ [some (.row rows.flatten)]) := by
 rcases s with ⟨s1,s2⟩ | ⟨q,full,s1,s2,s3⟩
 · exact absurd s2 hr
 · obtain ⟨es',rfl,he⟩ := s1
   have hr2 := Sl.all hr s3
   have hne : rows.length ≠ 0 := fun e => hr (List.eq_nil_of_length_eq_zero e)
   have hsz : rows.length * (b + 1) ≤ 2 ^ 40 := Nat.le_trans (Nat.mul_le_mul hn2 (show b + 1 ≤ 1000001 by omega)) (by decide)
   have ho2 : rows.flatten.all one = true := by
    rw [List.all_eq_true]; intro x hx
    obtain ⟨c,hc,hx⟩ := List.mem_flatten.1 hx
    exact List.all_eq_true.1 (ho c hc) x hx
   simp only [dS,fK,he,if_true,hr2,Option.map_some,Option.bind_some]
   rw [if_neg hne,if_pos ⟨hsz,ho2⟩]
   simp [eO]
def Gr2 (H : aA) (es n io : Nat) (ov : AV) (vs : List AV) : Prop := n = 0 ∧ ov = .nilS ∧ vs = [] ∨ n ≠ 0 ∧ ov = .sl (.own io 0) n es false ∧ H[io]? = some (some (.row vs)) ∧ vs.length = n * es
theorem Gr2.sub {G H : aA} {es n io : Nat} {ov : AV} {vs : List AV} (g : Gr2 G es n io ov vs) (s : aH G H) : Gr2 H es n io ov vs := by
 rcases g with h1 | ⟨h1,h2,h3,h4⟩
 · exact .inl h1
 · exact .inr ⟨h1,h2,s.2 _ _ h3,h4⟩
def mk (n io : Nat) (H : aA) : aA := if n = 0 then H else H.set io none
theorem Gr2.more {H : aA} {es b n io k : Nat} {ov : AV} {vs x : List AV} {f : Bool} (g : Gr2 H es n io ov vs) (hk : H[k]? = some (some (.row x))) (hx : x.length = es) (ho : x.all one = true) (hb : b ≤ 1000000) (hn : n ≤ 1000000) :
 ∃ G,dS w0 H es b ov (.sl (.own k 0) 1 es f) = some (.sl (.own H.length 0) (n + 1) es false,G) ∧ Gr2 G es (n + 1) H.length (.sl (.own H.length 0) (n + 1) es false) (vs ++ x) ∧ aH (mk n io H) (mk (n + 1) H.length G) ∧ G.length = H.length + 1 := by
 have hlen : vs.length = n * es := by
  rcases g with ⟨h1,_,h3⟩ | ⟨_,_,_,h5⟩
  · subst h1; subst h3; simp
  · exact h5
 obtain ⟨G,e1,e2,e3,e4⟩ := zB (w0 := w0) (b := b) (f := f) g hk hx ho hb hn
 refine ⟨G,e1,.inr ⟨by omega,rfl,e3,by rw [List.length_append,hlen,hx,Nat.succ_mul]⟩,⟨?_,fun i c e => ?_⟩,e2⟩
 · simp only [mk]; split <;> (rw [if_neg (by omega)]; simp; omega)
 · have hi := aQ e
   have hil : i < H.length := by simp only [mk] at hi; split at hi <;> simpa using hi
   simp only [mk] at e ⊢
   rw [if_neg (by omega),qB (by omega)]
   split at e
   · exact e4 i c (fun h => absurd (by assumption) h) e
   · by_cases h2 : io = i
     · subst h2
       rw [qF hil] at e; cases e
     · rw [qB h2] at e
       exact e4 i c (fun _ => fun h => h2 h.symm) e
theorem aH.set {G H : aA} (s : aH G H) (i : Nat) : aH (G.set i none) (H.set i none) := by
 refine ⟨by simpa using s.1,fun j c e => ?_⟩
 by_cases e2 : i = j
 · subst e2
   have hl := aQ e
   rw [qF (by simpa using hl)] at e; cases e
 · rw [qB e2] at e ⊢; exact s.2 j c e
theorem mk_sub {n io : Nat} {H : aA} : aH (mk n io H) H := by unfold mk; split; exact aH.refl; exact aH.msk
theorem aBn {n io : Nat} {G H : aA} (s : aH G H) : aH (mk n io G) (mk n io H) := by unfold mk; split; exact s; exact s.set io
section
variable {fr : Fr}
def bdK (n : Nat) (l h : Option Nat) (m : Option (Option Nat)) : Option (Nat × Nat × Option Nat) := match l,h,m with
 | some l,some h,none => if l ≤ h ∧ h ≤ n then some (l,h,none) else none
 | some l,some h,some (some m) => if l ≤ h ∧ h ≤ m ∧ m ≤ n then some (l,h,some m) else none
 | _,_,_ => none
@[go_sem] theorem bdK_2 {n l h : Nat} : bdK n (some l) (some h) none = if l ≤ h ∧ h ≤ n then some (l,h,none) else none := (rfl)
@[go_sem] theorem bdK_3 {n l h m : Nat} : bdK n (some l) (some h) (some (some m)) = if l ≤ h ∧ h ≤ m ∧ m ≤ n then some (l,h,some m) else none := (rfl)
@[go_sem] theorem bounds_0 {n : Nat} : bR fr n none none none = some (0,n,none) := by simp [bR]
@[go_sem] theorem bounds_h {n : Nat} {y : Opd} : bR fr n none (some y) none = bdK n (some 0) (bV (y.ev fr)) none := by
 simp only [bR,bdK]; cases bV (y.ev fr) <;> rfl
@[go_sem] theorem bounds_l {n : Nat} {x : Opd} : bR fr n (some x) none none = bdK n (bV (x.ev fr)) (some n) none := by
 simp only [bR,bdK]; cases bV (x.ev fr) <;> rfl
@[go_sem] theorem bounds_lh {n : Nat} {x y : Opd} : bR fr n (some x) (some y) none = bdK n (bV (x.ev fr)) (bV (y.ev fr)) none := by
 simp only [bR,bdK]; cases bV (x.ev fr) <;> cases bV (y.ev fr) <;> rfl
@[go_sem] theorem bounds_hm {n : Nat} {y z : Opd} : bR fr n none (some y) (some z) = bdK n (some 0) (bV (y.ev fr)) (some (bV (z.ev fr))) := by
 simp only [bR,bdK]; cases bV (y.ev fr) <;> cases bV (z.ev fr) <;> rfl
def slK (p : Pl) (len es : Nat) (full : Bool) (b : Option (Nat × Nat × Option Nat)) : Option AV := b.map fun b => .sl (p.add (b.1 * es)) (b.2.1 - b.1) es (dU b.2.2 b.2.1 (full && b.2.1 == len))
@[go_sem] theorem slcV_sl {es : Nat} {p : Pl} {len : Nat} {full : Bool} {lo hi mx : Option Opd} : slcV es fr (.sl p len es full) lo hi mx = slK p len es full (bR fr len lo hi mx) := by
 simp only [slcV,jW,if_true]; rfl
@[go_sem] theorem slK_s {p : Pl} {len es l h : Nat} {full : Bool} {m : Option Nat} : slK p len es full (some (l,h,m)) = some (.sl (p.add (l * es)) (h - l) es (dU m h (full && h == len))) := (rfl)
@[go_sem] theorem slK_i {p : Pl} {len es : Nat} {full : Bool} {c : Prop} [Decidable c] {x : Nat × Nat × Option Nat} : slK p len es full (if c then some x else none) = if c then slK p len es full (some x) else none := by split <;> rfl
@[go_sem] theorem fullOf_n {h : Nat} {d : Bool} : dU none h d = d := (rfl)
@[go_sem] theorem fullOf_s {m h : Nat} {d : Bool} : dU (some m) h d = (m == h) := (rfl)
def aA7 (n es i o : Nat) (b : Option (Option Blk)) (q : Option (Nat × Nat × Option Nat)) : Option AV := match b with
 | some (some (.row c)) => if o + n * es ≤ c.length then q.map fun b => .sl (.own i (o + b.1 * es)) (b.2.1 - b.1) es (dU b.2.2 b.2.1 (b.2.1 == n)) else none
 | _ => none
def aDT (n es : Nat) (x : AV) (h : aA) (q : Option (Nat × Nat × Option Nat)) : Option AV := match x with
 | .ptr (.own i o) => aA7 n es i o h[i]? q
 | _ => none
@[go_sem] theorem slcaV_p {n es i o : Nat} {q : Option (Nat × Nat × Option Nat)} : aDT n es (.ptr (.own i o)) h q = aA7 n es i o h[i]? q := (rfl)
@[go_sem] theorem slcaB_r {n es i o l hh : Nat} {m : Option Nat} {c : List AV} : aA7 n es i o (some (some (.row c))) (some (l,hh,m)) = if o + n * es ≤ c.length then some (.sl (.own i (o + l * es)) (hh - l) es (dU m hh (hh == n))) else none := (rfl)
@[go_sem] theorem aop_slca {n es : Nat} {x : Opd} {lo hi mx : Option Opd} : aop w0 (.slca n es x lo hi mx) fr h = onV (aDT n es (x.ev fr) h (bR fr n lo hi mx)) h := by
 simp only [aop,aDT]
 generalize Opd.ev fr x = a
 generalize bR fr n lo hi mx = q
 cases a <;> try rfl
 rename_i p
 cases p with
 | old a => rfl
 | own i o =>
  simp only [aA7]
  cases h[i]? with
  | none => rfl
  | some b =>
   cases b with
   | none => rfl
   | some b =>
    cases b with
    | row c =>
     simp only
     split
     · cases q <;> rfl
     · rfl
    | map es => rfl
    | loop _ _ _ _ _ _ _ => rfl
end
theorem wY {α : Type} {l : List α} {i : Nat} {x : α} (h : l[i]? = some x) : l.set i x = l := by
 refine List.ext_getElem? fun k => ?_
 rw [List.getElem?_set]
 split
 · rename_i e; subst e; rw [if_pos (aQ h),h]
 · rfl
attribute [go_sem] Nat.reduceEqDiff Nat.reduceAdd Nat.reduceSub Nat.reduceMul Nat.reduceLT Nat.reduceLeDiff Int.reduceLE Int.reduceLT Int.reduceAdd Int.reduceSub Int.reduceMul Int.reduceEq Int.reduceBEq Int.reduceBNe Int.reduceNeg Int.reduceToNat reduceCtorEq
attribute [go_sem ↓] reduceIte
end Go.Proofs.Ab
namespace Go.Proofs.Ab
open Go Go.Proofs
variable {w0 : World} {h : aA}
attribute [local irreducible] ACall bD dI bQ dH rvC lp rg dr ex un rv
theorem aR {α : Type} {l : List α} {i : Nat} {d : α} (h : i < l.length) : l.getD i d = l[i] := by rw [List.getD_eq_getElem?_getD,qA h]; rfl
def inB (x lo hi : Int) : Bool := decide (lo ≤ x) && decide (x ≤ hi)
theorem Gro.put {H : aA} {es n : Nat} {ov : AV} {vs : List AV} (g : Gro h H es n ov vs) (hn : n ≠ 0) : ∃ io,h.length ≤ io ∧ ov = .sl (.own io 0) n es false ∧ H[io]? = some (some (.row vs)) ∧ vs.length = n * es ∧ ∀ vs' : List AV,vs'.length = vs.length → Gro h (H.set io (some (.row vs'))) es n ov vs' := by
 rcases g.own with ⟨h1,_⟩ | ⟨io,h1,h2,h3,h4,h5⟩
 · exact absurd h1 hn
 · refine ⟨io,h1,h3,h4,h5,fun vs' hl => ⟨⟨by rw [List.length_set]; exact g.sub.1,fun i b e => ?_⟩,.inr ⟨io,h1,h2,h3,?_,by rw [hl]; exact h5⟩⟩⟩
   · have hi := aQ e
     rw [qB (by omega)]
     exact g.sub.2 i b e
   · rw [qF (aQ h4)]
def NS {α : Type} (w0 : World) (h : aA) (es : Nat) (R : α → List AV → Prop) (v : AV) (l : List α) : Prop :=
 ∃ rows : List (List AV),rows.length = l.length ∧ Sl w0 h es v rows ∧ ∀ (j : Nat) x c,l[j]? = some x → rows[j]? = some c → R x c
section
variable {α : Type} {es : Nat} {R R' : α → List AV → Prop} {v : AV} {l : List α}
theorem NS.mono {H : aA} (s : NS w0 h es R v l) (t : aH h H) (m : ∀ x c,R x c → R' x c) : NS w0 H es R' v l := by
 obtain ⟨rows,h1,h2,h3⟩ := s
 exact ⟨rows,h1,h2.sub t,fun j x c a b => m _ _ (h3 j x c a b)⟩
theorem NS.len (s : NS w0 h es R v l) : sC v = some (.int .i64 l.length) := by
 obtain ⟨rows,h1,h2,h3⟩ := s
 have := h2.use.1
 rw [h1] at this; exact this
theorem NS.bdd (s : NS w0 h es R v l) {N : Nat} (hN : h.length ≤ N) : v.bdd N := by
 obtain ⟨rows,h1,h2,h3⟩ := s
 exact h2.bdd hN
theorem NS.one (s : NS w0 h es R v l) : Ab.one v = true ∧ cellsOf v = some [v] := by
 obtain ⟨rows,h1,h2,h3⟩ := s
 exact h2.one
theorem NS.at_ (s : NS w0 h es R v l) {j : Nat} (hj : j < l.length) : ∃ (p : Pl) (c : List AV),fZ es v (some j) = some (.ptr p) ∧ (∀ L,rdn w0 (h ++ L) p es = some c) ∧ R l[j] c := by
 obtain ⟨rows,h1,h2,h3⟩ := s
 obtain ⟨p,p1,p2⟩ := h2.lt (j := j) (by omega)
 obtain ⟨c,hc⟩ : ∃ c,rows[j]? = some c := ⟨_,qA (by omega)⟩
 exact ⟨p,c,p1,fun L => p2 L c hc,h3 j _ c (qA hj) hc⟩
theorem NS.nil : NS w0 h es R .nilS ([] : List α) := ⟨[],rfl,.inl ⟨rfl,rfl⟩,fun j x c a b => by simp at a⟩
end
theorem Gro.gr2 {H : aA} {es n : Nat} {ov : AV} {vs : List AV} (g : Gro h H es n ov vs) : ∃ io,h.length ≤ io ∧ Gr2 H es n io ov vs := by
 rcases g.own with h1 | ⟨io,h1,h2,h3,h4,h5⟩
 · exact ⟨h.length,Nat.le_refl _,.inl h1⟩
 · exact ⟨io,h1,.inr ⟨h2,h3,h4,h5⟩⟩
theorem Gr2.mask {H : aA} {es n io i : Nat} {ov : AV} {vs : List AV} (g : Gr2 H es n io ov vs) (hi : i ≠ io) : Gr2 (H.set i none) es n io ov vs := by
 rcases g with h1 | ⟨h1,h2,h3,h4⟩
 · exact .inl h1
 · exact .inr ⟨h1,h2,by rw [qB hi]; exact h3,h4⟩
theorem Gr2.gro {H : aA} {es n io : Nat} {ov : AV} {vs : List AV} (g : Gr2 H es n io ov vs) : Gro [] H es n ov vs := by
 refine ⟨⟨Nat.zero_le _,fun i b e => by simp at e⟩,?_⟩
 rcases g with h1 | ⟨h1,h2,h3,h4⟩
 · exact .inl h1
 · exact .inr ⟨io,Nat.zero_le _,h1,h2,h3,h4⟩
theorem Gr2.sl {H : aA} {es n io : Nat} {ov : AV} {rows : List (List AV)} (g : Gr2 H es n io ov rows.flatten) (hr : ∀ c ∈ rows,c.length = es) (hn : n = rows.length) (hes : es ≠ 0) : Sl w0 H es ov rows := g.gro.sl hr hn hes
structure GN {α : Type} (w0 : World) (K : aA) (R : aA → α → List AV → Prop) (H : aA) (es io : Nat) (ov : AV) (l : List α) : Prop where
 make ::
 sub : aH K (mk l.length io H)
 ex : ∃ rows : List (List AV),rows.length = l.length ∧ Gr2 H es l.length io ov rows.flatten ∧ (∀ c ∈ rows,c.length = es) ∧ ∀ (j : Nat) x c,l[j]? = some x → rows[j]? = some c → R (mk l.length io H) x c
section
variable {α : Type} {R : aA → α → List AV → Prop}
theorem GN.nil {K H : aA} {es io : Nat} (s : aH K H) : GN w0 K R H es io .nilS ([] : List α) :=
 ⟨by simpa [mk] using s,[],rfl,.inl ⟨rfl,rfl,rfl⟩,by simp,fun j x c a b => by simp at a⟩
theorem GN.ns {K H : aA} {es io : Nat} {ov : AV} {l : List α} (g : GN w0 K R H es io ov l) (hm : ∀ {A B : aA} {x c},aH A B → R A x c → R B x c) (hes : es ≠ 0) : NS w0 H es (R H) ov l := by
 obtain ⟨rows,h1,h2,h3,h4⟩ := g.ex
 exact ⟨rows,h1,h2.sl h3 h1.symm hes,fun j x c a b => hm mk_sub (h4 j x c a b)⟩
theorem GN.more {K H : aA} {es io : Nat} {ov : AV} {l : List α} (g : GN w0 K R H es io ov l) {G : aA} {es' b : Nat} {k : Nat} {f : Bool} {x : α} {c : List AV} (hs : aH (mk l.length io H) (mk l.length io G)) (hown : Gr2 G es l.length io ov ((g.ex.choose).flatten))
 (hm : ∀ {A B : aA} {x c},aH A B → R A x c → R B x c) (hk : G[k]? = some (some (.row c))) (hc : c.length = es) (ho : c.all one = true) (hx : R (mk l.length io G) x c) (hb : b ≤ 1000000) (hn : l.length ≤ 1000000) :
 ∃ G',dS w0 G es b ov (.sl (.own k 0) 1 es f) = some (.sl (.own G.length 0) (l.length + 1) es false,G') ∧ GN w0 K R G' es G.length (.sl (.own G.length 0) (l.length + 1) es false) (l ++ [x]) ∧ aH (mk l.length io G) (mk (l.length + 1) G.length G') ∧ G'.length = G.length + 1 := by
 obtain ⟨G',e1,e2,e3,e4⟩ := hown.more (w0 := w0) (b := b) (f := f) hk hc ho hb hn
 have hsp := g.ex.choose_spec
 obtain ⟨h1,h2,h3,h4⟩ := hsp
 refine ⟨G',e1,⟨by rw [List.length_append,List.length_singleton]; exact (g.sub.trans hs).trans e3,g.ex.choose ++ [c],by simp [h1],by
  rw [List.length_append,List.length_singleton,List.flatten_append]; simpa using e2,fun d hd => ?_,fun j y d hy hd => ?_⟩,e3,e4⟩
 · rcases List.mem_append.1 hd with hd | hd
   · exact h3 d hd
   · rw [List.mem_singleton.1 hd]; exact hc
 · rw [List.length_append,List.length_singleton]
   have hj := aQ hy
   rw [List.length_append,List.length_singleton] at hj
   by_cases hjl : j < l.length
   · rw [qH hjl] at hy
     rw [qH (by rw [h1]; exact hjl)] at hd
     exact hm (hs.trans e3) (h4 j y d hy hd)
   · obtain rfl : j = l.length := by omega
     rw [qI (Nat.le_refl _),Nat.sub_self] at hy
     rw [qI (by rw [h1]; exact Nat.le_refl _),h1,Nat.sub_self] at hd
     simp at hy hd
     subst hy; subst hd
     exact hm e3 hx
theorem GN.sub' {K H G : aA} {es io : Nat} {ov : AV} {l : List α} (g : GN w0 K R H es io ov l) (s : aH H G) (hm : ∀ {A B : aA} {x c},aH A B → R A x c → R B x c) : GN w0 K R G es io ov l := by
 obtain ⟨rows,h1,h2,h3,h4⟩ := g.ex
 exact ⟨g.sub.trans (aBn s),rows,h1,h2.sub s,h3,fun j x c a b => hm (aBn s) (h4 j x c a b)⟩
theorem GN.lt {K H : aA} {es io : Nat} {ov : AV} {l : List α} (g : GN w0 K R H es io ov l) (h : l.length ≠ 0) : io < H.length := by
 obtain ⟨rows,h1,h2,h3,h4⟩ := g.ex
 rcases h2 with h2 | ⟨_,_,h2,_⟩
 · exact absurd h2.1 h
 · exact aQ h2
theorem GN.push {K G : aA} {es io : Nat} {ov : AV} {l : List α} (g : GN w0 K R G es io ov l) {b : Nat} {k : Nat} {f : Bool} {x : α} {c : List AV}
 (hm : ∀ {A B : aA} {x c},aH A B → R A x c → R B x c) (hk : G[k]? = some (some (.row c))) (hc : c.length = es) (ho : c.all one = true) (hx : R (mk l.length io G) x c) (hb : b ≤ 1000000) (hn : l.length ≤ 1000000) :
 ∃ G',dS w0 G es b ov (.sl (.own k 0) 1 es f) = some (.sl (.own G.length 0) (l.length + 1) es false,G') ∧ GN w0 K R G' es G.length (.sl (.own G.length 0) (l.length + 1) es false) (l ++ [x]) ∧ aH (mk l.length io G) (mk (l.length + 1) G.length G') ∧ G'.length = G.length + 1 :=
 g.more (es' := 0) aH.refl g.ex.choose_spec.2.1 hm hk hc ho hx hb hn
end
theorem aAN {H : aA} {es io : Nat} {full : Bool} {rows : List (List AV)} (hi : H[io]? = some (some (.row rows.flatten))) (hr : ∀ c ∈ rows,c.length = es) : Sl w0 H es (.sl (.own io 0) rows.length es full) rows := by
 have hlt := aQ hi
 have e : H = H.take io ++ H.drop io := (List.take_append_drop io H).symm
 have hl : (H.take io).length = io := by rw [List.length_take]; omega
 have := aEX (w0 := w0) (h := H.take io) rows (es := es) full (L := H.drop io) 0 (by rw [List.getElem?_drop,Nat.add_zero]; exact hi) hr
 rw [← e,hl,Nat.add_zero] at this
 exact this
structure SlO (w0 : World) (h : aA) (v : AV) (l : List Int) : Prop where
 s : SlI w0 h v l
 e : l = [] → fK w0 h 1 v = some (0,[])
theorem SlO.sub {H : aA} {v : AV} {l : List Int} (a : SlO w0 h v l) (t : aH h H) : SlO w0 H v l := by
 refine ⟨Sl.sub a.s t,fun e => ?_⟩
 have := a.e e
 cases v <;> simp only [fK] at this ⊢
 all_goals first
  | exact this
  | (split at this
     · rename_i h1
       rw [if_pos h1]
       simp only [qD,Prod.mk.injEq] at this ⊢
       obtain ⟨x,h2,h3,h4⟩ := this
       exact ⟨x,t.rdn h2,h3,h4⟩
     · cases this)
  | cases this
theorem aH.setR {G H : aA} (s : aH G H) {i : Nat} {x : Option Blk} (hi : G.length ≤ i) : aH G (H.set i x) :=
 ⟨by rw [List.length_set]; exact s.1,fun j c e => by rw [qB (by have := aQ e; omega)]; exact s.2 j c e⟩
theorem Gr2.keep {G H : aA} {es n io : Nat} {ov : AV} {vs : List AV} (g : Gr2 G es n io ov vs) (s : ∀ c,G[io]? = some (some c) → H[io]? = some (some c)) : Gr2 H es n io ov vs := by
 rcases g with h1 | ⟨h1,h2,h3,h4⟩
 · exact .inl h1
 · exact .inr ⟨h1,h2,s _ h3,h4⟩
theorem Gr2.one {H : aA} {es n io : Nat} {ov : AV} {vs : List AV} (g : Gr2 H es n io ov vs) : Ab.one ov = true ∧ cellsOf ov = some [ov] := by
 rcases g with ⟨_,rfl,_⟩ | ⟨_,rfl,_⟩ <;> exact ⟨rfl,rfl⟩
theorem Gro.gro1 {K H : aA} {es n : Nat} {ov : AV} {vs : List AV} (g : Gro K H es n ov vs) : Ab.one ov = true ∧ cellsOf ov = some [ov] := by
 rcases g.own with ⟨_,rfl,_⟩ | ⟨_,_,_,rfl,_⟩ <;> exact ⟨rfl,rfl⟩
theorem Gro.at1 {K H : aA} {es n i : Nat} {ov : AV} {vs : List AV} {b : Blk} (g : Gro K H es n ov vs) (hi : H[i]? = some (some b)) : Gro (K.set i (some b)) H es n ov vs := by
 refine ⟨⟨by rw [List.length_set]; exact g.sub.1,fun j c e => ?_⟩,?_⟩
 · by_cases e2 : i = j
   · subst e2
     rw [List.getElem?_set_self' ] at e
     cases e3 : K[i]? with
     | none => rw [e3] at e; cases e
     | some z => rw [e3] at e; cases e; exact hi
   · rw [qB e2] at e; exact g.sub.2 j c e
 · rw [List.length_set]; exact g.own
theorem Gro.unat {K H : aA} {es n i : Nat} {ov : AV} {vs : List AV} {b : Blk} (g : Gro (K.set i (some b)) H es n ov vs) (hi : K[i]? = some none) : Gro K H es n ov vs ∧ H[i]? = some (some b) := by
 have hlt := aF hi
 refine ⟨⟨⟨by have := g.sub.1; rwa [List.length_set] at this,fun j c e => ?_⟩,?_⟩,g.sub.2 _ _ (qF hlt)⟩
 · refine g.sub.2 j c ?_
   rw [qB (fun e2 => by subst e2; rw [hi] at e; cases e)]; exact e
 · have := g.own
   rwa [List.length_set] at this
theorem Gro.setN {K H : aA} {es n i : Nat} {ov : AV} {vs : List AV} {b : Option Blk} (g : Gro K H es n ov vs) (hi : K[i]? = some none) : Gro K (H.set i b) es n ov vs := by
 have hlt := aF hi
 refine ⟨⟨by rw [List.length_set]; exact g.sub.1,fun j c e => ?_⟩,?_⟩
 · rw [qB (fun e2 => by subst e2; rw [hi] at e; cases e)]; exact g.sub.2 j c e
 · rcases g.own with h1 | ⟨io,h1,h2,h3,h4,h5⟩
   · exact .inl h1
   · exact .inr ⟨io,h1,h2,h3,by rw [qB (by omega)]; exact h4,h5⟩
theorem Gro.slo {K H : aA} {n : Nat} {ov : AV} {l : List Int} (g : Gro K H 1 n ov (bJ l)) (hn : n = l.length) : SlO w0 H ov l := by
 refine ⟨g.sli hn,fun e => ?_⟩
 rcases g.own with ⟨_,rfl,_⟩ | ⟨io,_,h0,_⟩
 · rfl
 · subst e; exact absurd hn h0
theorem SlI.at_ {x : AV} {l : List Int} (a : SlI w0 h x l) {j : Nat} (hj : j < l.length) : ∃ p : Pl,fZ 1 x (some j) = some (.ptr p) ∧ (∀ L,rd w0 (h ++ L) p = some (.int .i64 l[j])) ∧ rd w0 h p = some (.int .i64 l[j]) := by
 obtain ⟨_,q,qi,qr⟩ := SlI.use a
 have := qr j hj []
 rw [List.append_nil] at this
 exact ⟨_,qi j hj,qr j hj,this⟩
theorem aH.set2 {A B : aA} {i : Nat} (s : aH A B) (hi : i < A.length) : aH (A.set i none) (B.set i none) := ⟨by simp only [List.length_set]; exact s.1,fun j b e => by
 by_cases q : i = j
 · subst q; rw [qF hi] at e; cases e
 · rw [qB q] at e ⊢; exact s.2 _ _ e⟩
structure OL {α : Type} (w0 : World) (R : aA → α → List AV → Prop) (H : aA) (es io : Nat) (ov : AV) (l : List α) : Prop where
 ex : ∃ (rows : List (List AV)) (f : Bool),rows.length = l.length ∧ ov = .sl (.own io 0) l.length es f ∧ H[io]? = some (some (.row rows.flatten)) ∧ (∀ c ∈ rows,c.length = es ∧ c.all one = true) ∧ ∀ (j : Nat) x c,l[j]? = some x → rows[j]? = some c → R (H.set io none) x c
section
variable {α : Type} {R : aA → α → List AV → Prop}
theorem OL.one {H : aA} {es k : Nat} {f : Bool} {x : α} {c : List AV} (hk : H[k]? = some (some (.row c))) (hc : c.length = es) (ho : c.all Ab.one = true) (hx : R (H.set k none) x c) : OL w0 R H es k (.sl (.own k 0) 1 es f) [x] :=
 ⟨[c],f,rfl,rfl,by simpa using hk,fun d hd => by simp only [List.mem_singleton] at hd; subst hd; exact ⟨hc,ho⟩,fun j y d hy hd => by
  have := aQ hy
  obtain rfl : j = 0 := by simpa using this
  simp at hy hd
  subst hy; subst hd; exact hx⟩
theorem OL.ns {H : aA} {es io : Nat} {ov : AV} {l : List α} (g : OL w0 R H es io ov l) (hm : ∀ {A B : aA} {x c},aH A B → R A x c → R B x c) : NS w0 H es (R H) ov l := by
 obtain ⟨rows,f,h1,h2,h3,h4,h5⟩ := g.ex
 refine ⟨rows,h1,?_,fun j x c a b => hm aH.msk (h5 j x c a b)⟩
 rw [h2,← h1]
 exact aAN h3 fun c hc => (h4 c hc).1
theorem OL.lt {H : aA} {es io : Nat} {ov : AV} {l : List α} (g : OL w0 R H es io ov l) : io < H.length := by
 obtain ⟨rows,f,h1,h2,h3,h4,h5⟩ := g.ex
 exact aQ h3
theorem OL.sub' {H G : aA} {es io : Nat} {ov : AV} {l : List α} (g : OL w0 R H es io ov l) (s : aH H G) (hm : ∀ {A B : aA} {x c},aH A B → R A x c → R B x c) : OL w0 R G es io ov l := by
 obtain ⟨rows,f,h1,h2,h3,h4,h5⟩ := g.ex
 exact ⟨rows,f,h1,h2,s.2 _ _ h3,h4,fun j x c a b => hm (s.set2 (aQ h3)) (h5 j x c a b)⟩
theorem OL.more {H : aA} {es io b : Nat} {ov y : AV} {l l' : List α} (g : OL w0 R H es io ov l) (hm : ∀ {A B : aA} {x c},aH A B → R A x c → R B x c) (ho : ∀ {A : aA} {x c},R A x c → c.all Ab.one = true) (hcl : ∀ {A : aA} {x c},R A x c → c.length = es)
 (s : NS w0 (H.set io none) es (R (H.set io none)) y l') (hne : l' ≠ []) (hb : b ≤ 1000000) (hn : l.length + l'.length ≤ 1000000) :
 ∃ G,dS w0 H es b ov y = some (.sl (.own H.length 0) (l.length + l'.length) es false,G) ∧ OL w0 R G es H.length (.sl (.own H.length 0) (l.length + l'.length) es false) (l ++ l') ∧ aH (H.set io none) (G.set H.length none) ∧ G.length = H.length + 1 := by
 obtain ⟨rows,f,h1,h2,h3,h4,h5⟩ := g.ex
 obtain ⟨rows',r1,r2,r3⟩ := s
 have hlt := aQ h3
 have hrne : rows' ≠ [] := fun e => hne (List.eq_nil_of_length_eq_zero (by rw [← r1,e]; rfl))
 have hr' : ∀ c ∈ rows',c.length = es ∧ c.all Ab.one = true := fun c hc => by
  obtain ⟨j,hj,e⟩ := List.mem_iff_getElem.1 hc
  have e1 : rows'[j]? = some c := by rw [qA hj,e]
  have e2 := qA (show j < l'.length by omega)
  exact ⟨hcl (r3 j _ c e2 e1),ho (r3 j _ c e2 e1)⟩
 have hp : rdn w0 H (.own io 0) (l.length * es) = some rows.flatten := by
  have : rows.flatten.length = l.length * es := by
   rw [← h1]
   clear h1 h2 h3 h5
   induction rows with
   | nil => simp
   | cons c rows ih => rw [List.flatten_cons,List.length_append,ih fun d hd => h4 d (by simp [hd]),(h4 c (by simp)).1,List.length_cons,Nat.succ_mul]; omega
  simp only [rdn,h3]
  rw [if_pos (by omega),List.drop_zero,← this,List.take_length]
 have key : ∀ G : aA,G.length = H.length + 1 → (∀ i c,i ≠ io → H[i]? = some (some c) → G[i]? = some (some c)) → G[H.length]? = some (some (.row (rows.flatten ++ rows'.flatten))) →
  OL w0 R G es H.length (.sl (.own H.length 0) (l.length + l'.length) es false) (l ++ l') ∧ aH (H.set io none) (G.set H.length none) := fun G g1 g2 g3 => by
  have hs : aH (H.set io none) (G.set H.length none) := by
   refine ⟨by simp only [List.length_set]; omega,fun i c e => ?_⟩
   have hi := aQ e
   rw [List.length_set] at hi
   rw [qB (by omega)]
   by_cases q : io = i
   · subst q; rw [qF hlt] at e; cases e
   · rw [qB q] at e
     exact g2 i c (Ne.symm q) e
  refine ⟨⟨rows ++ rows',false,by simp [h1,r1],by simp,by simpa using g3,fun c hc => ?_,fun j x c hx hc => ?_⟩,hs⟩
  · rcases List.mem_append.1 hc with hc | hc
    · exact h4 c hc
    · exact hr' c hc
  · by_cases hj : j < l.length
    · rw [qH hj] at hx
      rw [qH (by omega)] at hc
      exact hm hs (h5 j x c hx hc)
    · rw [qI (by omega)] at hx
      rw [qI (by omega),h1] at hc
      exact hm hs (r3 _ x c hx hc)
 have r2H : Sl w0 H es y rows' := r2.sub aH.msk
 cases f with
 | true =>
  have := zC (b := b) r2H hrne (fun c hc => (hr' c hc).2) hp hb (by omega)
  rw [r1] at this
  refine ⟨_,by rw [h2]; exact this,?_⟩
  obtain ⟨k1,k2⟩ := key (H ++ [some (.row (rows.flatten ++ rows'.flatten))]) (by simp) (fun i c _ e => aE e) (by simp)
  exact ⟨k1,k2,by simp⟩
 | false =>
  rcases r2H with ⟨_,e⟩ | ⟨q,full,s1,s2,s3⟩
  · exact absurd e hrne
  obtain ⟨es',rfl,he⟩ := s1
  have hr2 := Sl.all hrne s3
  have hne2 : rows'.length ≠ 0 := fun e => hrne (List.eq_nil_of_length_eq_zero e)
  have hsz : (l.length + rows'.length) * (b + 1) ≤ 2 ^ 40 := Nat.le_trans (Nat.mul_le_mul (show l.length + rows'.length ≤ 1000001 by omega) (show b + 1 ≤ 1000001 by omega)) (by decide)
  have ho2 : rows'.flatten.all Ab.one = true := by
   rw [List.all_eq_true]; intro x hx
   obtain ⟨c,hc,hx⟩ := List.mem_flatten.1 hx
   exact List.all_eq_true.1 (hr' c hc).2 x hx
  have ea : dS w0 H es b (.sl (.own io 0) l.length es false) (.sl q rows'.length es' full) = some (.sl (.own H.length 0) (l.length + l'.length) es false,H.set io none ++ [some (.row (rows.flatten ++ rows'.flatten))]) := by
   simp only [dS,fK,he,jW,if_true,hr2,Option.map_some,Option.bind_some]
   rw [if_neg hne2,if_pos ⟨trivial,hsz,ho2⟩]
   simp only [Bool.false_eq_true,if_false,hp,Option.bind_some]
   simp [r1]
  refine ⟨_,by rw [h2]; exact ea,?_⟩
  obtain ⟨k1,k2⟩ := key (H.set io none ++ [some (.row (rows.flatten ++ rows'.flatten))]) (by simp) (fun i c q e => aE (by rw [qB (Ne.symm q)]; exact e)) (by simp)
  exact ⟨k1,k2,by simp⟩
end
theorem aA6 {H : aA} {b : List Int} {io n : Nat} {f : Bool} (e : H[io]? = some (some (.row (bJ b)))) (hn : n = b.length) : SlI w0 H (.sl (.own io 0) n 1 f) b := by
 have := aAN (w0 := w0) (H := H) (es := 1) (io := io) (full := f) (rows := b.map fun z => [AV.int .i64 z]) (by rw [e,kK]) (by intro c hc; obtain ⟨a,_,rfl⟩ := List.mem_map.1 hc; rfl)
 rw [List.length_map] at this
 rw [hn]; exact this
theorem OL.push {α : Type} {R : aA → α → List AV → Prop} {H : aA} {es io b : Nat} {ov : AV} {l : List α} {x : α} {c : List AV} {f : Bool} (g : OL w0 R H es io ov l) (hm : ∀ {A B : aA} {x c},aH A B → R A x c → R B x c) (ho : ∀ {A : aA} {x c},R A x c → c.all Ab.one = true) (hcl : ∀ {A : aA} {x c},R A x c → c.length = es)
 (hx : R (H.set io none) x c) (hb : b ≤ 1000000) (hn : l.length + 1 ≤ 1000000) :
 ∃ G,dS w0 (H ++ [some (.row c)]) es b ov (.sl (.own H.length 0) 1 es f) = some (.sl (.own (H.length + 1) 0) (l.length + 1) es false,G) ∧ OL w0 R G es (H.length + 1) (.sl (.own (H.length + 1) 0) (l.length + 1) es false) (l ++ [x]) ∧ aH (H.set io none) (G.set (H.length + 1) none) ∧ G.length = H.length + 2 := by
 have hio := g.lt
 obtain ⟨H1,eH1⟩ : ∃ H1,H1 = H ++ [some (Blk.row c)] := ⟨_,rfl⟩
 have s1 : aH H H1 := eH1 ▸ aH.refl.app
 have k1 : H1[H.length]? = some (some (.row c)) := by rw [eH1]; simp
 have l1 : H1.length = H.length + 1 := by rw [eH1]; simp
 have hs : aH (H.set io none) (H1.set io none) := s1.set2 hio
 have hns : NS w0 (H1.set io none) es (R (H1.set io none)) (.sl (.own H.length 0) 1 es f) [x] := by
  refine ⟨[c],rfl,aAN (rows := [c]) (by rw [qB (by omega)]; simpa using k1) (fun d hd => by simp only [List.mem_singleton] at hd; subst hd; exact hcl hx),fun j y d hy hd => ?_⟩
  have := aQ hy
  obtain rfl : j = 0 := by simpa using this
  simp at hy hd
  subst hy; subst hd; exact hm hs hx
 obtain ⟨G,a1,a2,a3,a4⟩ := (g.sub' s1 hm).more (b := b) hm ho hcl hns (by simp) hb (by simpa using hn)
 rw [l1] at a1 a2 a3 a4
 rw [← eH1]
 exact ⟨G,a1,a2,hs.trans a3,a4⟩
end Go.Proofs.Ab
namespace Go.Proofs.Ab
open Go Go.Proofs
def aAq (x : Int) : List Int → List Int
 | [] => [x]
 | y :: r => if x ≤ y then x :: y :: r else y :: aAq x r
def fL : List Int → List Int
 | [] => []
 | x :: r => aAq x (fL r)
theorem nW (x : Int) : ∀ l : List Int,(aAq x l).Perm (x :: l)
 | [] => List.Perm.refl _
 | y :: r => by
  simp only [aAq]
  split
  · exact List.Perm.refl _
  · exact ((nW x r).cons y).trans (List.Perm.swap x y r)
theorem cR : ∀ l : List Int,(fL l).Perm l
 | [] => List.Perm.refl _
 | x :: r => (nW x _).trans ((cR r).cons x)
theorem aBz {x : Int} : ∀ {l : List Int},l.Pairwise (· ≤ ·) → (aAq x l).Pairwise (· ≤ ·)
 | [],_ => by simp [aAq]
 | y :: r,hl => by
  rw [List.pairwise_cons] at hl
  simp only [aAq]
  split
  · rename_i hx
    rw [List.pairwise_cons,List.pairwise_cons]
    refine ⟨fun z hz => ?_,hl⟩
    rcases List.mem_cons.1 hz with rfl | hz
    · exact hx
    · exact Int.le_trans hx (hl.1 z hz)
  · rename_i hx
    rw [List.pairwise_cons]
    refine ⟨fun z hz => ?_,aBz hl.2⟩
    rcases List.mem_cons.1 ((nW x r).mem_iff.1 hz) with rfl | hz
    · omega
    · exact hl.1 z hz
theorem jT : ∀ {l : List Int},(fL l).Pairwise (· ≤ ·)
 | [] => List.Pairwise.nil
 | x :: r => aBz jT
theorem aBh : ∀ {a b : List Int},a.Perm b → a.Pairwise (· ≤ ·) → b.Pairwise (· ≤ ·) → a = b
 | [],b,p,_,_ => (List.Perm.nil_eq p)
 | x :: a,[],p,_,_ => by have := p.length_eq; simp at this
 | x :: a,y :: b,p,ha,hb => by
  rw [List.pairwise_cons] at ha hb
  have h1 : x ≤ y := by
   rcases List.mem_cons.1 (p.mem_iff.2 (List.mem_cons_self (a := y) (l := b))) with e | e
   · omega
   · exact ha.1 y e
  have h2 : y ≤ x := by
   rcases List.mem_cons.1 (p.mem_iff.1 (List.mem_cons_self (a := x) (l := a))) with e | e
   · omega
   · exact hb.1 x e
  obtain rfl : x = y := by omega
  rw [aBh (List.Perm.cons_inv p) ha.2 hb.2]
structure aM where
 ml : Int
 mh : Int
 cl : Int
 ch : Int
 sl : Int
 sh : Int
 w : Bool
structure aG where
 days : List aM
 ser : List Int
structure aJ where
 night : Int
 tail : Int
 slot : Int
 serial : Int
structure aD where
 n : Int
 ml : Int
 mh : Int
 cl : Int
 ch : Int
 d : Int
def cQ (u : aM) : Bool := (decide (0 ≤ u.ml) && (decide (u.ml ≤ u.mh) && decide (u.mh ≤ 1440))) && ((decide (0 ≤ u.cl) && (decide (u.cl ≤ u.ch) && decide (u.ch ≤ 200))) && (decide (0 ≤ u.sl) && (decide (u.sl ≤ u.sh) && decide (u.sh ≤ u.ch))))
def fY (f : List (List Int)) (s : aJ) : Bool := decide (s.serial < 0) || f.all fun l => !l.contains s.serial
def lM (f : List (List Int)) (s : aJ) : List (List Int) := f.set s.tail.toNat ((f.getD s.tail.toNat []).set s.slot.toNat s.serial)
def goF : List (List Int) → List aJ → Option (List (List Int))
 | f,[] => some f
 | f,s :: r => if fY f s then goF (lM f s) r else none
theorem vF : ∀ {f : List (List Int)} {a b : List aJ},goF f (a ++ b) = (goF f a).bind fun g => goF g b
 | f,[],b => rfl
 | f,s :: a,b => by
  rw [List.cons_append,goF,goF]
  split
  · exact vF
  · rfl
def cS (l : List aG) (sw : List aJ) (d : Int) : Option (List (List Int)) := goF (l.map aG.ser) (sw.filter fun s => decide (s.night < d))
def gH (sw : List aJ) : Prop := sw.Pairwise fun a b => a.night ≤ b.night
theorem aCM {sw : List aJ} (h : gH sw) (d : Int) : ∃ k,k ≤ sw.length ∧ sw.filter (fun s => decide (s.night < d)) = sw.take k ∧ (∀ s ∈ sw.take k,s.night < d) ∧ ∀ s ∈ sw.drop k,d ≤ s.night := by
 induction sw with
 | nil => exact ⟨0,Nat.le_refl _,rfl,by simp,by simp⟩
 | cons s r ih =>
  rw [gH,List.pairwise_cons] at h
  by_cases q : s.night < d
  · obtain ⟨k,h1,h2,h3,h4⟩ := ih h.2
    refine ⟨k + 1,by simpa using h1,by simp [q,h2],?_,by simpa using h4⟩
    intro x hx
    rw [List.take_succ_cons,List.mem_cons] at hx
    rcases hx with rfl | hx
    · exact q
    · exact h3 x hx
  · refine ⟨0,Nat.zero_le _,?_,by simp,?_⟩
    · rw [List.take_zero,List.filter_eq_nil_iff]
      intro x hx
      rcases List.mem_cons.1 hx with rfl | hx
      · simpa using q
      · have := h.1 x hx; simp; omega
    · intro x hx
      rw [List.drop_zero] at hx
      rcases List.mem_cons.1 hx with rfl | hx
      · omega
      · have := h.1 x hx; omega
def iF (l : List Int) : Prop := (l.filter fun n => decide (0 ≤ n)).Nodup
theorem aAh {l : List Int} (h : iF l) {n : Int} (hn : 0 ≤ n) : (l.filter fun m => decide (m = n)).length = if n ∈ l then 1 else 0 := by
 have e : l.filter (fun m => decide (m = n)) = (l.filter fun n => decide (0 ≤ n)).filter fun m => decide (m = n) := by
  rw [List.filter_filter]
  refine List.filter_congr fun x _ => ?_
  by_cases q : x = n
  · subst q; simp [hn]
  · simp [q]
 have hm : n ∈ l ↔ n ∈ l.filter fun n => decide (0 ≤ n) := by simp [hn]
 rw [e]
 unfold iF at h
 generalize l.filter (fun n => decide (0 ≤ n)) = k at *
 by_cases q : n ∈ l
 · rw [if_pos q]
   have := hm.1 q
   have hc := List.Nodup.count (a := n) h
   rw [if_pos this,List.count_eq_length_filter] at hc
   rw [← hc]; congr 1
 · rw [if_neg q]
   have : n ∉ k := fun h => q (hm.2 h)
   rw [List.length_eq_zero_iff,List.filter_eq_nil_iff]
   intro x hx
   have : x ≠ n := fun e => this (e ▸ hx)
   simpa using this
theorem aD9 {l : List Int} {i : Nat} {x : Int} (h : iF l) (hx : x < 0 ∨ x ∉ l) : iF (l.set i x) := by
 by_cases hi : i < l.length
 · have e1 : l = l.take i ++ l[i] :: l.drop (i + 1) := by rw [← List.drop_eq_getElem_cons hi,List.take_append_drop]
   have e2 : l.set i x = l.take i ++ x :: l.drop (i + 1) := List.set_eq_take_append_cons_drop.trans (if_pos hi)
   rw [iF,e2,List.filter_append,List.filter_cons]
   rw [iF,e1,List.filter_append,List.filter_cons] at h
   have h' : (List.filter (fun n => decide (0 ≤ n)) (l.take i) ++ List.filter (fun n => decide (0 ≤ n)) (l.drop (i + 1))).Nodup := by
    refine h.sublist (List.Sublist.append (List.Sublist.refl _) ?_)
    split
    · exact List.sublist_cons_self _ _
    · exact List.Sublist.refl _
   split
   · rename_i hp
     have hp : 0 ≤ x := by simpa using hp
     have hxl : x ∉ l := by rcases hx with q | q; omega; exact q
     rw [List.nodup_append] at h' ⊢
     have n1 : x ∉ l.take i := fun h => hxl (List.mem_of_mem_take h)
     have n2 : x ∉ l.drop (i + 1) := fun h => hxl (List.mem_of_mem_drop h)
     refine ⟨h'.1,List.nodup_cons.2 ⟨fun h => n2 (List.mem_filter.1 h).1,h'.2.1⟩,fun a ha b hb => ?_⟩
     rcases List.mem_cons.1 hb with rfl | hb
     · exact fun e => n1 (e ▸ (List.mem_filter.1 ha).1)
     · exact h'.2.2 a ha b hb
   · exact h'
 · rw [List.set_eq_of_length_le (by omega)]; exact h
theorem aCq {f : List (List Int)} {s : aJ} : fY f s = true ↔ (s.serial < 0 ∨ ∀ l ∈ f,s.serial ∉ l) := by
 simp [fY]
theorem xL {f : List (List Int)} {s : aJ} (h : ∀ l ∈ f,iF l) (hp : fY f s = true) : ∀ l ∈ lM f s,iF l := by
 intro l hl
 rcases List.mem_or_eq_of_mem_set hl with hl | rfl
 · exact h l hl
 · by_cases hi : s.tail.toNat < f.length
   · rw [aR hi]
     refine aD9 (h _ (qG hi)) ?_
     rcases aCq.1 hp with q | q
     · exact .inl q
     · exact .inr (q _ (qG hi))
   · rw [List.getD_eq_getElem?_getD,List.getElem?_eq_none (by omega)]
     simp [iF]
theorem aBk : ∀ {sw : List aJ} {f g : List (List Int)},(∀ l ∈ f,iF l) → goF f sw = some g → ∀ l ∈ g,iF l
 | [],f,g,h,e => by rw [goF,Option.some.injEq] at e; exact e ▸ h
 | s :: r,f,g,h,e => by
  rw [goF] at e
  split at e
  · rename_i hp; exact aBk (xL h hp) e
  · cases e
theorem aF3 {f : List (List Int)} {s : aJ} : (lM f s).map List.length = f.map List.length := by
 rw [lM,List.map_set]
 by_cases hi : s.tail.toNat < f.length
 · rw [aR hi,List.length_set]
   refine List.ext_getElem? fun i => ?_
   by_cases q : s.tail.toNat = i
   · subst q; rw [qF (by simpa using hi),List.getElem?_map,qA hi]; rfl
   · rw [qB q]
 · rw [List.set_eq_of_length_le (by simp; omega)]
def aCt : aM := ⟨0,0,0,0,0,0,false⟩
def qZ : aG := ⟨[],[]⟩
def dA (l : List aG) (i d : Nat) : aM := (l.getD i qZ).days.getD d aCt
def jX (l : List aG) (g : List (List Int)) (d : Nat) (n : Int) : List aM := g.zipIdx.flatMap fun p => if n ∈ p.1 then [dA l p.2 d] else []
def kU (a : Int) : Int := if a ≤ 10000000 then a else 10000000
def aY (a b : Int) : Int := kU (kU a + b)
def gF (x : aD) (u : aM) : aD := ⟨x.n,aY x.ml u.ml,aY x.mh u.mh,aY x.cl u.cl,aY x.ch u.ch,x.d + 1⟩
def mC (x : aD) (u : aM) : aD := ⟨x.n,x.ml + u.ml,x.mh + u.mh,x.cl + u.cl,x.ch + u.ch,x.d + 1⟩
def zT (n : Int) : aD := ⟨n,0,0,0,0,0⟩
def BdT (k : Int) (x : aD) : Prop := (0 ≤ x.ml ∧ x.ml ≤ k * 1440) ∧ (0 ≤ x.mh ∧ x.mh ≤ k * 1440) ∧ (0 ≤ x.cl ∧ x.cl ≤ k * 200) ∧ (0 ≤ x.ch ∧ x.ch ≤ k * 200) ∧ x.d = k
theorem aHE {x : aD} {u : aM} {k : Int} (hx : BdT k x) (hu : cQ u = true) (hk : 0 ≤ k) (hk2 : k ≤ 5000) : gF x u = mC x u ∧ BdT (k + 1) (mC x u) := by
 simp only [cQ,Bool.and_eq_true,decide_eq_true_eq] at hu
 obtain ⟨h1,h2,h3,h4,h5⟩ := hx
 have m : ∀ a b : Int,0 ≤ a → a ≤ 7200000 → 0 ≤ b → b ≤ 1440 → aY a b = a + b := fun a b h1 h2 h3 h4 => by
  rw [aY,kU,kU,if_pos (by omega),if_pos (by omega)]
 refine ⟨?_,?_⟩
 · rw [gF,mC,m _ _ h1.1 (by omega) (by omega) (by omega),m _ _ h2.1 (by omega) (by omega) (by omega),m _ _ h3.1 (by omega) (by omega) (by omega),m _ _ h4.1 (by omega) (by omega) (by omega)]
 · simp only [BdT,mC]
   omega
theorem aBE {n : Int} : ∀ {us : List aM} {x : aD} {k : Int},BdT k x → 0 ≤ k → k + us.length ≤ 5000 → (∀ u ∈ us,cQ u = true) → us.foldl gF x = us.foldl mC x ∧ BdT (k + us.length) (us.foldl mC x)
 | [],x,k,h,_,_,_ => ⟨rfl,by simpa using h⟩
 | u :: us,x,k,h,h0,h1,h2 => by
  simp only [List.length_cons] at h1
  obtain ⟨e1,e2⟩ := aHE h (h2 u (by simp)) h0 (by omega)
  have := aBE (n := n) (us := us) e2 (by omega) (by omega) fun v hv => h2 v (by simp [hv])
  rw [List.foldl_cons,List.foldl_cons,e1]
  refine ⟨this.1,?_⟩
  have h3 := this.2
  rwa [List.length_cons,show k + ((us.length + 1 : Nat) : Int) = k + 1 + us.length by omega]
theorem aHg {ks : List Int} {P : Int → Bool} {N : Nat} (hn : ks.Nodup) (hm : ∀ k,k ∈ ks ↔ 0 ≤ k ∧ k ≤ N ∧ P k = true) : fL ks = ((List.range (N + 1)).map fun i : Nat => (i : Int)).filter P := by
 have hp : ((List.range (N + 1)).map fun i : Nat => (i : Int)).Pairwise (· < ·) := by
  rw [List.pairwise_map]
  exact List.Pairwise.imp (fun h => by omega) List.pairwise_lt_range
 have hf := hp.filter P
 refine aBh ((cR ks).trans ?_) jT (List.Pairwise.imp (fun h => by omega) hf)
 refine (List.perm_ext_iff_of_nodup hn (List.Pairwise.imp (fun h => by omega) hf)).2 fun k => ?_
 rw [hm,List.mem_filter,List.mem_map]
 constructor
 · rintro ⟨h1,h2,h3⟩
   exact ⟨⟨k.toNat,List.mem_range.2 (by omega),by omega⟩,h3⟩
 · rintro ⟨⟨i,hi,rfl⟩,h3⟩
   have := List.mem_range.1 hi
   exact ⟨by omega,by omega,h3⟩
end Go.Proofs.Ab
namespace Go.Proofs.Ab
open Go Go.Proofs
variable {w0 : World} {h : aA}
attribute [local irreducible] ACall bD dI bQ dH rvC lp rg dr ex un rv
def gM (a b lo hi : Int) : Bool := decide (lo ≤ a) && (decide (a ≤ b) && decide (b ≤ hi))
theorem wK (x lo hi : Int) : bQ Try.prog w0 38 [.int .i64 x,.int .i64 lo,.int .i64 hi] h (.bool (inB x lo hi)) h := by
 refine bN aW aBr aEn aEm (qE rfl) (by simp [AV.bdd,AV.bdds]) fun hb ha => bT ?_
 simp only [go_sem,mf38]
 exact ⟨fun a => by simp [inB,a],fun a => by simp [inB,a]⟩
theorem lF (x lo hi : Int) : bQ Try.prog w0 11 [.int .i64 x,.int .i64 lo,.int .i64 hi] h (.bool (inB x lo hi)) h := by
 refine bN aW aHc mf11_b mf11_g (qE rfl) (by simp [AV.bdd,AV.bdds]) fun hb ha => bT ?_
 simp only [go_sem,mf11]
 exact ⟨fun a => by simp [inB,a],fun a => by simp [inB,a]⟩
theorem uF (a b lo hi : Int) : bQ Try.prog w0 63 [.agg [.int .i64 a,.int .i64 b],.int .i64 lo,.int .i64 hi] h (.bool (gM a b lo hi)) h := by
 refine bN aW aBp aEj aEi (qE rfl) (by simp [AV.bdd,AV.bdds]) fun hb ha => bT ?_
 simp only [go_sem,mf63]
 exact ⟨fun x => ⟨fun y => by simp [gM,x,y],fun y => by simp [gM,y]⟩,fun x => by simp [gM,x]⟩
theorem qQ (a b hi : Int) : bQ Try.prog w0 32 [.agg [.int .i64 a,.int .i64 b],.int .i64 hi] h (.bool (gM a b 0 hi)) h := by
 refine bN aW aGS mf32_b mf32_g (qE rfl) (by simp [AV.bdd,AV.bdds]) fun hb ha => bT ?_
 simp only [go_sem,mf32]
 exact ⟨fun x => ⟨fun y => by simp [gM,x,y],fun y => by simp [gM,y]⟩,fun x => by simp [gM,x]⟩
@[go_sem] def aM.c (u : aM) : List AV := [.int .i64 u.ml,.int .i64 u.mh,.int .i64 u.cl,.int .i64 u.ch,.int .i64 u.sl,.int .i64 u.sh,.bool u.w]
theorem aA1 {u : aM} : cQ u = (gM u.ml u.mh 0 1440 && (gM u.cl u.ch 0 200 && gM u.sl u.sh 0 u.ch)) := rfl
theorem wday_c (u : aM) : bQ Try.prog w0 35 [.agg u.c] h (.bool (cQ u)) h := by
 refine bN aW aBs aEp aEo (qE rfl) (by simp [AV.bdd,AV.bdds]) fun hb ha => bT ?_
 simp only [go_sem,mf35]
 refine aV (uF u.ml u.mh 0 1440).v ?_
 rw [aA1]
 cases c1 : gM u.ml u.mh 0 1440 with
 | false => simp only [go_sem]; simp
 | true =>
 simp only [go_sem]
 refine aV (uF u.cl u.ch 0 200).v ?_
 cases c2 : gM u.cl u.ch 0 200 with
 | false => simp only [go_sem]; simp
 | true =>
 simp only [go_sem]
 refine aV (uF u.sl u.sh 0 u.ch).v ?_
 simp only [go_sem]
theorem rUse_c (u : aM) : bQ Try.prog w0 10 [.agg u.c] h (.bool (cQ u)) h := by
 refine bN aW aHd mf10_b mf10_g (qE rfl) (by simp [AV.bdd,AV.bdds]) fun hb ha => bT ?_
 simp only [go_sem,mf10]
 refine aV (qQ u.ml u.mh 1440).v ?_
 rw [aA1]
 cases c1 : gM u.ml u.mh 0 1440 with
 | false => simp only [go_sem]; simp
 | true =>
 simp only [go_sem]
 refine aV (qQ u.cl u.ch 200).v ?_
 cases c2 : gM u.cl u.ch 0 200 with
 | false => simp only [go_sem]; simp
 | true =>
 simp only [go_sem]
 refine aV (qQ u.sl u.sh u.ch).v ?_
 simp only [go_sem]
theorem aFE (u : aM) : bQ Try.prog w0 58 [.agg u.c] h (.bool !cQ u) h := by
 refine bN aW aGv mf58_b mf58_g (qE rfl) (by simp [AV.bdd,AV.bdds]) fun hb ha => bT ?_
 simp only [go_sem,mf58]
 refine aV (wday_c u).v ?_
 simp only [go_sem]
theorem pR {i : Nat} (a b c d : Int) (f : Bool) (hi : h[i]? = some (some (.row [.int .i64 a,.int .i64 b,.int .i64 c,.int .i64 d])))
 (hat : 0 ≤ a ∧ a ≤ 100000000000) (hb2 : 0 ≤ b ∧ b ≤ 100000000000) (hc : 0 ≤ c ∧ c ≤ 100000000000) (hd : 0 ≤ d ∧ d ≤ 100000000000) :
 bQ Try.prog w0 59 [.sl (.own i 0) 2 2 f] h (.agg [.int .i64 (aY a c),.int .i64 (aY b d)]) h := by
 refine eU (by simp [AV.bdd,AV.bdds]) (cB aW aGu mf59_b mf59_g (qE rfl) fun hb ha => bT ?_)
 simp only [go_sem,mf59]
 have q0 : ∀ L,rdn w0 (h ++ L) (.own i 0) 2 = some [.int .i64 a,.int .i64 b] := fun L => mP (by simp only [rdn,hi]; rfl)
 have q1 : ∀ L,rdn w0 (h ++ L) (.own i 2) 2 = some [.int .i64 c,.int .i64 d] := fun L => mP (by simp only [rdn,hi]; rfl)
 have e0 : (0 : Int) < ((2 : Nat) : Int) := by omega
 have e1 : (1 : Int) < ((2 : Nat) : Int) := by omega
 have e2 : ¬ (2 : Int) < ((2 : Nat) : Int) := by omega
 have m1 : ∀ x : Int,min 10000000 (0 + x) = kU x := fun x => by rw [kU]; split <;> omega
 have m2 : ∀ x y : Int,min 10000000 (kU x + y) = aY x y := fun x y => by
  show min 10000000 (kU x + y) = kU (kU x + y)
  generalize kU x + y = z
  rw [kU]; split <;> omega
 have b1 : ∀ x : Int,0 ≤ x → x ≤ 100000000000 → 0 ≤ kU x ∧ kU x ≤ 10000000 := fun x h1 h2 => by rw [kU]; split <;> omega
 have ba := b1 a hat.1 hat.2
 have bb := b1 b hb2.1 hb2.2
 refine aN aW vV [2,3,6,7,8] L59_0.eq_1 ?_
 simp only [go_sem,q0,e0]
 refine ⟨(by unfold I64; omega),(by unfold I64; omega),(by unfold I64; omega),?_⟩
 rw [m1,m1]
 refine aN aW vV [2,3,6,7,8] L59_0.eq_1 ?_
 simp only [go_sem,q1,e1]
 refine ⟨(by unfold I64; omega),(by unfold I64; omega),(by unfold I64; omega),?_⟩
 rw [m2,m2]
 refine aN aW vV [2,3,6,7,8] L59_0.eq_1 ?_
 simp only [go_sem,e2]
 exact aH.refl.app
def ag2 (a b : Int) : AV := .agg [.int .i64 a,.int .i64 b]
def gV (iw iu : Nat) (a0 a1 a2 a3 a4 a5 r0 r1 : Int) (u : aM) : Nat → AV → aA → Prop
 | 0,v,_ => v = .ptr (.own iw 0)
 | 1,v,_ => v = ag2 a0 a1
 | 2,v,_ => v = .ptr (.own iu 0)
 | 3,v,_ => v = ag2 u.ml u.mh
 | 4,v,H => ∃ b,v = .sl (.own b 0) 2 2 true ∧ H[b]? = some (some (.row [.int .i64 a0,.int .i64 a1,.int .i64 u.ml,.int .i64 u.mh]))
 | 5,v,_ => v = ag2 (aY a0 u.ml) (aY a1 u.mh)
 | 6,v,_ => v = .ptr (.own iw 2)
 | 7,v,_ => v = ag2 a2 a3
 | 8,v,_ => v = .ptr (.own iu 2)
 | 9,v,_ => v = ag2 u.cl u.ch
 | 10,v,H => ∃ b,v = .sl (.own b 0) 2 2 true ∧ H[b]? = some (some (.row [.int .i64 a2,.int .i64 a3,.int .i64 u.cl,.int .i64 u.ch]))
 | 11,v,_ => v = ag2 (aY a2 u.cl) (aY a3 u.ch)
 | 12,v,_ => v = .ptr (.own iw 4)
 | 13,v,_ => v = ag2 a4 a5
 | 14,v,_ => v = ag2 r0 r1
 | 15,v,H => ∃ b,v = .sl (.own b 0) 2 2 true ∧ H[b]? = some (some (.row [.int .i64 a4,.int .i64 a5,.int .i64 r0,.int .i64 r1]))
 | 16,v,_ => v = ag2 (aY a4 r0) (aY a5 r1)
 | 17,v,_ => v = .agg [.int .i64 (aY a0 u.ml),.int .i64 (aY a1 u.mh),.int .i64 (aY a2 u.cl),.int .i64 (aY a3 u.ch),.int .i64 (aY a4 r0),.int .i64 (aY a5 r1)]
 | _,_,_ => True
def Sm (x : Int) : Prop := 0 ≤ x ∧ x ≤ 100000000000
theorem aBD {X : aA} {fr0 : Fr} {iw iu ir it : Nat} {a0 a1 a2 a3 a4 a5 r0 r1 : Int} {u : aM} {z : List AV} {Q : Exit → Fr → aA → Prop} {its : List It} {nt Z : Nat}
 (hw : X[iw]? = some (some (.row [.int .i64 a0,.int .i64 a1,.int .i64 a2,.int .i64 a3,.int .i64 a4,.int .i64 a5]))) (hu : X[iu]? = some (some (.row u.c))) (hr : X[ir]? = some (some (.row [.int .i64 r0,.int .i64 r1]))) (hi : X[it]? = some (some (.row z))) (hz : z.length = 6)
 (f4 : fr0.get 4 = .ptr (.own iw 0)) (f5 : fr0.get 5 = .ptr (.own iu 0)) (f7 : fr0.get 7 = .ptr (.own ir 0)) (f6 : fr0.get 6 = .ptr (.own it 0))
 (ba : Sm a0 ∧ Sm a1 ∧ Sm a2 ∧ Sm a3 ∧ Sm a4 ∧ Sm a5) (bu : Sm u.ml ∧ Sm u.mh ∧ Sm u.cl ∧ Sm u.ch) (br : Sm r0 ∧ Sm r1)
 (fin : ∀ fr H,aH X H → (∀ t,t < 47 → fr.get t = fr0.get t) → un Try.prog w0 none nt Z Q .normal its fr (H.set it (some (.row [.int .i64 (aY a0 u.ml),.int .i64 (aY a1 u.mh),.int .i64 (aY a2 u.cl),.int .i64 (aY a3 u.ch),.int .i64 (aY a4 r0),.int .i64 (aY a5 r1)])))) :
 dr Try.prog w0 none nt Z Q D36_0 B36_0 its fr0 X := by
 refine aHx aW (n := 18) (gV iw iu a0 a1 a2 a3 a4 a5 r0 r1 u) (fun k => 47 + k) (fun fr H' => ∃ H,aH X H ∧ (∀ t,t < 47 → fr.get t = fr0.get t) ∧ H' = H.set it (some (.row [.int .i64 (aY a0 u.ml),.int .i64 (aY a1 u.mh),.int .i64 (aY a2 u.cl),.int .i64 (aY a3 u.ch),.int .i64 (aY a4 r0),.int .i64 (aY a5 r1)]))) rfl (by decide) ?_ (fun i j _ _ e => by simpa using e) ?_ ?_ ?_ ?_
 · intro i x hi hx
   rcases i with _ | _ | _ | _ | _ | _ | _ | _ | _ | _ | _ | _ | _ | _ | _ | _ | _ | _ | i <;> first | (cases hx; rfl) | omega
 · intro k v H H' s e
   unfold gV at *
   split at e <;> first | exact e | (obtain ⟨b,e1,e2⟩ := e; exact ⟨b,e1,s.2 _ _ e2⟩)
 · intro i x fr H hi hx s kp hb
   have g : ∀ t,t < 47 → fr.get t = fr0.get t := fun t ht => kp t fun j _ e => by omega
   have hw' := s.2 _ _ hw
   have hu' := s.2 _ _ hu
   have hr' := s.2 _ _ hr
   rcases i with _ | _ | _ | _ | _ | _ | _ | _ | _ | _ | _ | _ | _ | _ | _ | _ | _ | _ | i
   all_goals first | (cases hx) | skip
   · exact ⟨_,_,by simp [aop,Opd.ev,g 4 (by omega),f4] <;> rfl,aH.refl,rfl⟩
   · have e : fr.get 47 = .ptr (.own iw 0) := hb 0 (by omega) (by decide)
     exact ⟨_,_,by simp [aop,Opd.ev,e,rdv,rdn,hw'] <;> rfl,aH.refl,rfl⟩
   · exact ⟨_,_,by simp [aop,Opd.ev,g 5 (by omega),f5,Pl.add] <;> rfl,aH.refl,rfl⟩
   · have e : fr.get 49 = .ptr (.own iu 0) := hb 2 (by omega) (by decide)
     exact ⟨_,_,by simp [aop,Opd.ev,e,rdv,rdn,hu',aM.c] <;> rfl,aH.refl,rfl⟩
   · have e : fr.get 48 = ag2 a0 a1 := hb 1 (by omega) (by decide)
     have e' : fr.get 50 = ag2 u.ml u.mh := hb 3 (by omega) (by decide)
     exact ⟨.sl (.own H.length 0) 2 2 true,H ++ [some (.row _)],by simp [aop,Opd.ev,e,e',ag2,dE,cellsOf,Ab.one,dL,bH,eO] <;> rfl,aH.refl.app,H.length,rfl,by rw [qI (Nat.le_refl _),Nat.sub_self]; rfl⟩
   · obtain ⟨b,e,e'⟩ := hb 4 (by omega) (by decide)
     have e : fr.get 51 = .sl (.own b 0) 2 2 true := e
     have := (pR (w0 := w0) (h := H) a0 a1 u.ml u.mh true e' ba.1 ba.2.1 bu.1 bu.2.1).v
     rw [← e] at this
     unfold dH at this
     exact bD.mono this (by rintro _ _ ⟨rfl,rfl⟩; exact ⟨aH.refl,rfl⟩)
   · exact ⟨_,_,by simp [aop,Opd.ev,g 4 (by omega),f4,Pl.add] <;> rfl,aH.refl,rfl⟩
   · have e : fr.get 53 = .ptr (.own iw 2) := hb 6 (by omega) (by decide)
     exact ⟨_,_,by simp [aop,Opd.ev,e,rdv,rdn,hw'] <;> rfl,aH.refl,rfl⟩
   · exact ⟨_,_,by simp [aop,Opd.ev,g 5 (by omega),f5,Pl.add] <;> rfl,aH.refl,rfl⟩
   · have e : fr.get 55 = .ptr (.own iu 2) := hb 8 (by omega) (by decide)
     exact ⟨_,_,by simp [aop,Opd.ev,e,rdv,rdn,hu',aM.c] <;> rfl,aH.refl,rfl⟩
   · have e : fr.get 54 = ag2 a2 a3 := hb 7 (by omega) (by decide)
     have e' : fr.get 56 = ag2 u.cl u.ch := hb 9 (by omega) (by decide)
     exact ⟨.sl (.own H.length 0) 2 2 true,H ++ [some (.row _)],by simp [aop,Opd.ev,e,e',ag2,dE,cellsOf,Ab.one,dL,bH,eO] <;> rfl,aH.refl.app,H.length,rfl,by rw [qI (Nat.le_refl _),Nat.sub_self]; rfl⟩
   · obtain ⟨b,e,e'⟩ := hb 10 (by omega) (by decide)
     have e : fr.get 57 = .sl (.own b 0) 2 2 true := e
     have := (pR (w0 := w0) (h := H) a2 a3 u.cl u.ch true e' ba.2.2.1 ba.2.2.2.1 bu.2.2.1 bu.2.2.2).v
     rw [← e] at this
     unfold dH at this
     exact bD.mono this (by rintro _ _ ⟨rfl,rfl⟩; exact ⟨aH.refl,rfl⟩)
   · exact ⟨_,_,by simp [aop,Opd.ev,g 4 (by omega),f4,Pl.add] <;> rfl,aH.refl,rfl⟩
   · have e : fr.get 59 = .ptr (.own iw 4) := hb 12 (by omega) (by decide)
     exact ⟨_,_,by simp [aop,Opd.ev,e,rdv,rdn,hw'] <;> rfl,aH.refl,rfl⟩
   · exact ⟨_,_,by simp [aop,Opd.ev,g 7 (by omega),f7,rdv,rdn,hr'] <;> rfl,aH.refl,rfl⟩
   · have e : fr.get 60 = ag2 a4 a5 := hb 13 (by omega) (by decide)
     have e' : fr.get 61 = ag2 r0 r1 := hb 14 (by omega) (by decide)
     exact ⟨.sl (.own H.length 0) 2 2 true,H ++ [some (.row _)],by simp [aop,Opd.ev,e,e',ag2,dE,cellsOf,Ab.one,dL,bH,eO] <;> rfl,aH.refl.app,H.length,rfl,by rw [qI (Nat.le_refl _),Nat.sub_self]; rfl⟩
   · obtain ⟨b,e,e'⟩ := hb 15 (by omega) (by decide)
     have e : fr.get 62 = .sl (.own b 0) 2 2 true := e
     have := (pR (w0 := w0) (h := H) a4 a5 r0 r1 true e' ba.2.2.2.2.1 ba.2.2.2.2.2 br.1 br.2).v
     rw [← e] at this
     unfold dH at this
     exact bD.mono this (by rintro _ _ ⟨rfl,rfl⟩; exact ⟨aH.refl,rfl⟩)
   · have e : fr.get 52 = ag2 (aY a0 u.ml) (aY a1 u.mh) := hb 5 (by omega) (by decide)
     have e' : fr.get 58 = ag2 (aY a2 u.cl) (aY a3 u.ch) := hb 11 (by omega) (by decide)
     have e2 : fr.get 63 = ag2 (aY a4 r0) (aY a5 r1) := hb 16 (by omega) (by decide)
     exact ⟨_,_,by simp [aop,Opd.ev,e,e',e2,ag2,dE,cellsOf,Ab.one,bH] <;> rfl,aH.refl,rfl⟩
   · omega
 · intro x fr H hx s kp hb
   have g : ∀ t,t < 47 → fr.get t = fr0.get t := fun t ht => kp t fun j _ e => by omega
   cases hx
   have hi' := s.2 _ _ hi
   have e : fr.get 64 = .agg [.int .i64 (aY a0 u.ml),.int .i64 (aY a1 u.mh),.int .i64 (aY a2 u.cl),.int .i64 (aY a3 u.ch),.int .i64 (aY a4 r0),.int .i64 (aY a5 r1)] := hb 17 (by omega)
   have hsp : bH z 0 [.int .i64 (aY a0 u.ml),.int .i64 (aY a1 u.mh),.int .i64 (aY a2 u.cl),.int .i64 (aY a3 u.ch),.int .i64 (aY a4 r0),.int .i64 (aY a5 r1)] = [.int .i64 (aY a0 u.ml),.int .i64 (aY a1 u.mh),.int .i64 (aY a2 u.cl),.int .i64 (aY a3 u.ch),.int .i64 (aY a4 r0),.int .i64 (aY a5 r1)] := by
    simp [bH,hz]
   exact ⟨_,_,by simp [aop,Opd.ev,g 6 (by omega),f6,e,cellsOf,Ab.one,hi',hz,hsp] <;> rfl,H,s,fun t ht => g t ht,rfl⟩
 · rintro fr _ ⟨H,s,kp,rfl⟩
   exact ⟨fr,fun _ => .inr rfl,fin fr H s kp⟩
theorem mulB {x y A B : Int} (h1 : 0 ≤ x ∧ x ≤ A) (h2 : 0 ≤ y ∧ y ≤ B) : 0 ≤ x * y ∧ x * y ≤ A * B :=
 ⟨Int.mul_nonneg h1.1 h2.1,Int.mul_le_mul h1.2 h2.2 h2.1 (by omega)⟩
def gr1 (k s t z : Int) (w : Bool) : Int := cond w (((k * s + t) * z).tdiv 1000) (k * s + t)
def gr2 (k s t z : Int) (w : Bool) : Int := cond w (((k * s + t) * z + 999).tdiv 1000) (k * s + t)
structure GrB (k3 k4 k5 k6 k7 a0 a1 a2 a3 a4 a5 : Int) (u : aM) : Prop where
 b3 : 0 ≤ k3 ∧ k3 ≤ 10000
 b4 : 0 ≤ k4 ∧ k4 ≤ 10000
 b5 : 0 ≤ k5 ∧ k5 ≤ 10000
 b6 : 0 ≤ k6 ∧ k6 ≤ 10000
 b7 : 0 ≤ k7 ∧ k7 ≤ 1000
 ba : Sm a0 ∧ Sm a1 ∧ Sm a2 ∧ Sm a3 ∧ Sm a4 ∧ Sm a5
 bu : Sm u.ml ∧ Sm u.mh ∧ Sm u.cl ∧ Sm u.ch
 bs : 0 ≤ u.sl ∧ u.sl ≤ 10000
 bt : 0 ≤ u.sh ∧ u.sh ≤ 10000
set_option maxRecDepth 20000 in
theorem aFD (k0 k1 k2 : Int) {k3 k4 k5 k6 k7 a0 a1 a2 a3 a4 a5 : Int} {u : aM} (b : GrB k3 k4 k5 k6 k7 a0 a1 a2 a3 a4 a5 u) : bQ Try.prog w0 36 [.agg [.int .i64 k0,.int .i64 k1,.int .i64 k2,.int .i64 k3,.int .i64 k4,.int .i64 k5,.int .i64 k6,.int .i64 k7],.agg [.int .i64 a0,.int .i64 a1,.int .i64 a2,.int .i64 a3,.int .i64 a4,.int .i64 a5],.agg u.c] h
 (.agg [.int .i64 (aY a0 u.ml),.int .i64 (aY a1 u.mh),.int .i64 (aY a2 u.cl),.int .i64 (aY a3 u.ch),.int .i64 (aY a4 (gr1 k3 u.sl k5 k7 u.w)),.int .i64 (aY a5 (gr2 k4 u.sh k6 k7 u.w))]) h := by
 refine eU (by simp [AV.bdd,AV.bdds]) (cB aW aGP mf36_b mf36_g (qE rfl) fun hb ha => bT ?_)
 have m1 := mulB b.b3 b.bs
 have m2 := mulB b.b4 b.bt
 have b5 := b.b5
 have b6 := b.b6
 have n1 : 0 ≤ k3 * u.sl + k5 ∧ k3 * u.sl + k5 ≤ 100010000 := by omega
 have n2 : 0 ≤ k4 * u.sh + k6 ∧ k4 * u.sh + k6 ≤ 100010000 := by omega
 have m3 := mulB n1 b.b7
 have m4 := mulB n2 b.b7
 have t1 : ∀ x : Int,0 ≤ x → x ≤ 100010001000 → 0 ≤ x.tdiv 1000 ∧ x.tdiv 1000 ≤ 100010001 := fun x h1 h2 => by
  rw [Int.tdiv_eq_ediv_of_nonneg h1]; omega
 have d1 := t1 _ m3.1 (by omega)
 have d2 := t1 ((k4 * u.sh + k6) * k7 + 999) (by omega) (by omega)
 simp only [go_sem,mf36]
 refine ⟨(by unfold I64; omega),(by unfold I64; omega),(by unfold I64; omega),(by unfold I64; omega),?_⟩
 cases hw : u.w with
 | true =>
  simp only [go_sem,hw]
  refine ⟨(by unfold I64; omega),(by unfold I64; omega),(by unfold I64; omega),(by unfold I64; omega),(by unfold I64; omega),?_⟩
  obtain ⟨X,hX⟩ : ∃ X,X = h ++ [some (Blk.row [AV.int IntKind.i64 k0,AV.int IntKind.i64 k1,AV.int IntKind.i64 k2,AV.int IntKind.i64 k3,AV.int IntKind.i64 k4,AV.int IntKind.i64 k5,AV.int IntKind.i64 k6,AV.int IntKind.i64 k7]),some (Blk.row [AV.int IntKind.i64 a0,AV.int IntKind.i64 a1,AV.int IntKind.i64 a2,AV.int IntKind.i64 a3,AV.int IntKind.i64 a4,AV.int IntKind.i64 a5]),some (Blk.row [AV.int IntKind.i64 u.ml,AV.int IntKind.i64 u.mh,AV.int IntKind.i64 u.cl,AV.int IntKind.i64 u.ch,AV.int IntKind.i64 u.sl,AV.int IntKind.i64 u.sh,AV.bool true]),some (Blk.row [AV.int IntKind.i64 0,AV.int IntKind.i64 0,AV.int IntKind.i64 0,AV.int IntKind.i64 0,AV.int IntKind.i64 0,AV.int IntKind.i64 0]),some (Blk.row [AV.int IntKind.i64 (((k3 * u.sl + k5) * k7).tdiv 1000),AV.int IntKind.i64 (((k4 * u.sh + k6) * k7 + 999).tdiv 1000)])] := ⟨_,rfl⟩
  have hXs : aH h X := hX ▸ aH.refl.app
  have xl : X.length = h.length + 5 := by rw [hX]; simp
  have at' : ∀ k : Nat,X[h.length + k]? = _ := fun k => by
   rw [hX,qI (by omega),show h.length + k - h.length = k by omega]
  rw [← hX]
  refine aBD (a0 := a0) (a1 := a1) (a2 := a2) (a3 := a3) (a4 := a4) (a5 := a5) (u := u) (it := h.length + 3) (z := [AV.int IntKind.i64 0,AV.int IntKind.i64 0,AV.int IntKind.i64 0,AV.int IntKind.i64 0,AV.int IntKind.i64 0,AV.int IntKind.i64 0]) (at' 1) (by rw [at' 2,aM.c,hw]; rfl) (at' 4) (at' 3) rfl rfl rfl rfl rfl b.ba b.bu ⟨by unfold Sm; omega,by unfold Sm; omega⟩ fun fr H s kp => ?_
  have f6 : fr.get 6 = .ptr (.own (h.length + 3) 0) := kp 6 (by omega)
  have hset := fun x : Option Blk => qF (a := x) (show h.length + 3 < H.length by have := s.1; omega)
  simp only [go_sem,f6,hset]
  exact ⟨(hXs.trans s).setR (by omega),by simp [gr1,gr2]⟩
 | false =>
  simp only [go_sem,hw]
  obtain ⟨X,hX⟩ : ∃ X,X = h ++ [some (Blk.row [AV.int IntKind.i64 k0,AV.int IntKind.i64 k1,AV.int IntKind.i64 k2,AV.int IntKind.i64 k3,AV.int IntKind.i64 k4,AV.int IntKind.i64 k5,AV.int IntKind.i64 k6,AV.int IntKind.i64 k7]),some (Blk.row [AV.int IntKind.i64 a0,AV.int IntKind.i64 a1,AV.int IntKind.i64 a2,AV.int IntKind.i64 a3,AV.int IntKind.i64 a4,AV.int IntKind.i64 a5]),some (Blk.row [AV.int IntKind.i64 u.ml,AV.int IntKind.i64 u.mh,AV.int IntKind.i64 u.cl,AV.int IntKind.i64 u.ch,AV.int IntKind.i64 u.sl,AV.int IntKind.i64 u.sh,AV.bool false]),some (Blk.row [AV.int IntKind.i64 0,AV.int IntKind.i64 0,AV.int IntKind.i64 0,AV.int IntKind.i64 0,AV.int IntKind.i64 0,AV.int IntKind.i64 0]),some (Blk.row [AV.int IntKind.i64 (k3 * u.sl + k5),AV.int IntKind.i64 (k4 * u.sh + k6)])] := ⟨_,rfl⟩
  have hXs : aH h X := hX ▸ aH.refl.app
  have xl : X.length = h.length + 5 := by rw [hX]; simp
  have at' : ∀ k : Nat,X[h.length + k]? = _ := fun k => by
   rw [hX,qI (by omega),show h.length + k - h.length = k by omega]
  rw [← hX]
  refine aBD (a0 := a0) (a1 := a1) (a2 := a2) (a3 := a3) (a4 := a4) (a5 := a5) (u := u) (it := h.length + 3) (z := [AV.int IntKind.i64 0,AV.int IntKind.i64 0,AV.int IntKind.i64 0,AV.int IntKind.i64 0,AV.int IntKind.i64 0,AV.int IntKind.i64 0]) (at' 1) (by rw [at' 2,aM.c,hw]; rfl) (at' 4) (at' 3) rfl rfl rfl rfl rfl b.ba b.bu ⟨by unfold Sm; omega,by unfold Sm; omega⟩ fun fr H s kp => ?_
  have f6 : fr.get 6 = .ptr (.own (h.length + 3) 0) := kp 6 (by omega)
  have hset := fun x : Option Blk => qF (a := x) (show h.length + 3 < H.length by have := s.1; omega)
  simp only [go_sem,f6,hset]
  exact ⟨(hXs.trans s).setR (by omega),by simp [gr1,gr2]⟩
theorem aDX {v : AV} {l : List Int} (n : Int) (hv : SlI w0 h v l) (hn : l.length ≤ 1000000) : bQ Try.prog w0 12 [v,.int .i64 n] h (.bool (decide (n ∈ l))) h := by
 refine bN aW aHb mf12_b mf12_g (qE rfl) (by simp [AV.bdd,AV.bdds]) fun hb ha => bT ?_
 have hls := (SlI.use hv).1
 simp only [go_sem,mf12]
 refine jC (fun i => [(0,v),(1,.int .i64 n),(5,.int .i64 i)]) (fun i => l[i]? ≠ some n) l.length rfl (fun i hi hall ih => ?_) (fun hall => ?_)
 · refine aN aW aB5 [0,1,5] L12_0.eq_1 ?_
   have e1 : (i : Int) < l.length := by omega
   obtain ⟨p,i1,r1,r1'⟩ := hv.at_ hi
   by_cases q : l[i] = n
   · simp only [go_sem,hls,e1,i1,r1,r1',q]
     rw [decide_eq_true (q ▸ qG hi)]
   · simp only [go_sem,hls,e1,i1,r1,r1',q]
     exact ⟨(by unfold I64; omega),ih (by rw [qA hi]; simpa using q)⟩
 · refine aN aW aB5 [0,1,5] L12_0.eq_1 ?_
   have e1 : ¬ (l.length : Int) < l.length := by omega
   simp only [go_sem,hls,e1]
   have : n ∉ l := fun hm => by
    obtain ⟨i,hi,e⟩ := List.getElem_of_mem hm
    exact hall i hi (by rw [qA hi,e])
   rw [decide_eq_false this]
def aAs (l : List Int) (n : Int) : Int := match l.findIdx? (· == n) with
 | some i => i
 | none => -1
theorem aHq {l : List Int} {n : Int} {i : Nat} (hi : i < l.length) (e : l[i] = n) (hall : ∀ j,j < i → l[j]? ≠ some n) : aAs l n = i := by
 have : l.findIdx? (· == n) = some i := List.findIdx?_eq_some_iff_getElem.2 ⟨hi,by simp [e],fun j hj => by
  have := hall j hj
  rw [qA (by omega)] at this
  simpa using this⟩
 rw [aAs,this]
theorem aHp {l : List Int} {n : Int} (hall : ∀ j,j < l.length → l[j]? ≠ some n) : aAs l n = -1 := by
 have : l.findIdx? (· == n) = none := List.findIdx?_eq_none_iff.2 fun x hx => by
  obtain ⟨i,hi,e⟩ := List.getElem_of_mem hx
  have := hall i hi
  rw [qA hi,e] at this
  simpa using this
 rw [aAs,this]
theorem aDp {v : AV} {l : List Int} (n : Int) (hv : SlI w0 h v l) (hn : l.length ≤ 1000000) : bQ Try.prog w0 68 [v,.int .i64 n] h (.int .i64 (aAs l n)) h := by
 refine bN aW aBo aEh aEg (qE rfl) (by simp [AV.bdd,AV.bdds]) fun hb ha => bT ?_
 have hls := (SlI.use hv).1
 simp only [go_sem,mf68,hls]
 refine jC (fun i => [(0,v),(1,.int .i64 n),(7,.int .i64 l.length),(8,.int .i64 i)]) (fun i => l[i]? ≠ some n) l.length rfl (fun i hi hall ih => ?_) (fun hall => ?_)
 · refine aN aW aBY [0,1,7,8] L68_0.eq_1 ?_
   have e1 : (i : Int) < l.length := by omega
   obtain ⟨p,i1,r1,r1'⟩ := hv.at_ hi
   obtain ⟨x,hx⟩ : ∃ x,x = l[i] := ⟨_,rfl⟩
   rw [← hx] at r1 r1'
   by_cases q : n = x
   · simp only [go_sem,e1,i1,r1,r1',q]
     rw [← q,aHq hi (by rw [← hx,q]) hall]
   · simp only [go_sem,e1,i1,r1,r1',q]
     exact ⟨(by unfold I64; omega),ih (by rw [qA hi,← hx]; simpa using fun e => q e.symm)⟩
 · refine aN aW aBY [0,1,7,8] L68_0.eq_1 ?_
   have e1 : ¬ (l.length : Int) < l.length := by omega
   simp only [go_sem,e1]
   rw [aHp hall]
theorem aED {l : List Int} {n : Int} : decide (aAs l n ≥ 0) = decide (n ∈ l) := by
 rw [aAs]
 cases h : l.findIdx? (· == n) with
 | none =>
  have : n ∉ l := fun hm => by have := List.findIdx?_eq_none_iff.1 h n hm; simp at this
  simp [this]
 | some i =>
  obtain ⟨hi,e,_⟩ := List.findIdx?_eq_some_iff_getElem.1 h
  have : n ∈ l := by
   have e : l[i] = n := by simpa using e
   exact e ▸ qG hi
  simp [this]
theorem aAZ {v : AV} {l : List Int} (n : Int) (hv : SlI w0 h v l) (hn : l.length ≤ 1000000) : bQ Try.prog w0 44 [v,.int .i64 n] h (.bool (decide (n ∈ l))) h := by
 refine bN aW aBq aEl aEk (qE rfl) (by simp [AV.bdd,AV.bdds]) fun hb ha => bT ?_
 simp only [go_sem,mf44]
 refine aV (aDp n hv.app hn).v ?_
 simp only [go_sem]
 rw [← aED]
def iT (w0 : World) (h : aA) (v : AV) (l : List aM) : Prop := NS w0 h 7 (fun u c => c = u.c) v l
def TailR (w0 : World) (h : aA) (t : aG) (c : List AV) : Prop := ∃ dv sv,c = [dv,sv] ∧ iT w0 h dv t.days ∧ SlO w0 h sv t.ser
def eE (w0 : World) (h : aA) (v : AV) (l : List aG) : Prop := NS w0 h 2 (TailR w0 h) v l
@[go_sem] def aJ.c (s : aJ) : List AV := [.int .i64 s.night,.int .i64 s.tail,.int .i64 s.slot,.int .i64 s.serial]
def fW (w0 : World) (h : aA) (v : AV) (l : List aJ) : Prop := NS w0 h 4 (fun u c => c = u.c) v l
theorem iT.sub {G H : aA} {v : AV} {l : List aM} (s : iT w0 G v l) (t : aH G H) : iT w0 H v l := NS.mono s t fun _ _ e => e
theorem fW.sub {G H : aA} {v : AV} {l : List aJ} (s : fW w0 G v l) (t : aH G H) : fW w0 H v l := NS.mono s t fun _ _ e => e
theorem eE.sub {G H : aA} {v : AV} {l : List aG} (s : eE w0 G v l) (t : aH G H) : eE w0 H v l := NS.mono s t fun _ _ ⟨dv,sv,e,a,b⟩ => ⟨dv,sv,e,a.sub t,b.sub t⟩
theorem iT.at_ {v : AV} {l : List aM} (s : iT w0 h v l) {j : Nat} (hj : j < l.length) : ∃ p : Pl,fZ 7 v (some j) = some (.ptr p) ∧ (∀ L,rdn w0 (h ++ L) p 7 = some l[j].c) ∧ rdn w0 h p 7 = some l[j].c := by
 obtain ⟨p,c,h1,h2,rfl⟩ := NS.at_ s hj
 exact ⟨p,h1,h2,by have := h2 []; rwa [List.append_nil] at this⟩
theorem fW.at_ {v : AV} {l : List aJ} (s : fW w0 h v l) {j : Nat} (hj : j < l.length) : ∃ p : Pl,fZ 4 v (some j) = some (.ptr p) ∧ (∀ L,rdn w0 (h ++ L) p 4 = some l[j].c) ∧ rdn w0 h p 4 = some l[j].c := by
 obtain ⟨p,c,h1,h2,rfl⟩ := NS.at_ s hj
 exact ⟨p,h1,h2,by have := h2 []; rwa [List.append_nil] at this⟩
theorem uY {H : aA} {p : Pl} {n : Nat} {c : List AV} (r : ∀ L,rdn w0 (H ++ L) p n = some c) : rdn w0 H p n = some c := by have := r []; rwa [List.append_nil] at this
theorem fU {H : aA} {p : Pl} {c : AV} (r : ∀ L,rd w0 (H ++ L) p = some c) : rd w0 H p = some c := by have := r []; rwa [List.append_nil] at this
theorem eE.at_ {v : AV} {l : List aG} (s : eE w0 h v l) {j : Nat} (hj : j < l.length) : ∃ (p : Pl) (dv sv : AV),fZ 2 v (some j) = some (.ptr p) ∧ (∀ L,rdn w0 (h ++ L) p 2 = some [dv,sv]) ∧ (∀ L,rd w0 (h ++ L) (p.add 0) = some dv) ∧ (∀ L,rd w0 (h ++ L) (p.add 1) = some sv) ∧ iT w0 h dv l[j].days ∧ SlO w0 h sv l[j].ser := by
 obtain ⟨p,c,h1,h2,dv,sv,rfl,h3,h4⟩ := NS.at_ s hj
 exact ⟨p,dv,sv,h1,h2,fun L => eY (h2 L) rfl,fun L => eY (h2 L) rfl,h3,h4⟩
def aAM (l : List aM) : Int := match l.findIdx? (fun u => !cQ u) with
 | some i => i
 | none => -1
theorem aHB {l : List aM} {i : Nat} (hi : i < l.length) (e : cQ l[i] = false) (hall : ∀ j,j < i → cQ (l.getD j aCt) = true) : aAM l = i := by
 have : l.findIdx? (fun u => !cQ u) = some i := List.findIdx?_eq_some_iff_getElem.2 ⟨hi,by simp [e],fun j hj => by
  have := hall j hj
  rw [aR (by omega)] at this
  simp [this]⟩
 rw [aAM,this]
theorem aHA {l : List aM} (hall : ∀ j,j < l.length → cQ (l.getD j aCt) = true) : aAM l = -1 := by
 have : l.findIdx? (fun u => !cQ u) = none := List.findIdx?_eq_none_iff.2 fun x hx => by
  obtain ⟨i,hi,e⟩ := List.getElem_of_mem hx
  have := hall i hi
  rw [aR hi,e] at this
  simp [this]
 rw [aAM,this]
theorem aEQ {l : List aM} : decide (aAM l ≥ 0) = !l.all cQ := by
 rw [aAM]
 cases h : l.findIdx? (fun u => !cQ u) with
 | none =>
  have : l.all cQ = true := List.all_eq_true.2 fun u hu => by have := List.findIdx?_eq_none_iff.1 h u hu; simpa using this
  rw [this]; simp
 | some i =>
  obtain ⟨hi,e,_⟩ := List.findIdx?_eq_some_iff_getElem.1 h
  have : l.all cQ = false := List.all_eq_false.2 ⟨l[i],qG hi,by simpa using e⟩
  rw [this]; simp
theorem aFF {v : AV} {l : List aM} (hv : iT w0 h v l) (hn : l.length ≤ 1000000) : bQ Try.prog w0 77 [v,.fn (.func 58) [] []] h (.int .i64 (aAM l)) h := by
 refine bN aW aGf mf77_b mf77_g (qE rfl) (by simp [AV.bdd,AV.bdds]) fun hb ha => bT ?_
 have hls := hv.len
 simp only [go_sem,mf77,hls]
 refine jC (fun i => [(0,v),(1,.fn (.func 58) [] []),(7,.int .i64 l.length),(8,.int .i64 i)]) (fun i => cQ (l.getD i aCt) = true) l.length rfl (fun i hi hall ih => ?_) (fun hall => ?_)
 · refine aN aW aBX [0,1,7,8] L77_0.eq_1 ?_
   have e1 : (i : Int) < l.length := by omega
   obtain ⟨p,i1,r1,r1'⟩ := hv.at_ hi
   obtain ⟨u,hu⟩ : ∃ u,u = l[i] := ⟨_,rfl⟩
   rw [← hu] at r1 r1'
   rw [aR hi,← hu] at ih
   simp only [go_sem,e1,i1,r1,r1']
   refine aV (aFE u).v ?_
   cases q : cQ u with
   | false =>
    simp only [go_sem]
    rw [aHB hi (hu ▸ q) hall]
   | true =>
    simp only [go_sem]
    exact ⟨(by unfold I64; omega),ih q⟩
 · refine aN aW aBX [0,1,7,8] L77_0.eq_1 ?_
   have e1 : ¬ (l.length : Int) < l.length := by omega
   simp only [go_sem,e1]
   rw [aHA hall]
theorem wcf_c {v : AV} {l : List aM} (hv : iT w0 h v l) (hn : l.length ≤ 1000000) : bQ Try.prog w0 57 [v,.fn (.func 58) [] []] h (.bool (!l.all cQ)) h := by
 refine bN aW aGw mf57_b mf57_g (qE rfl) (by simp [AV.bdd,AV.bdds]) fun hb ha => bT ?_
 simp only [go_sem,mf57]
 refine aV (aFF (iT.sub hv aH.refl.app) hn).v ?_
 simp only [go_sem]
 rw [← aEQ]
end Go.Proofs.Ab

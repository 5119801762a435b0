/- The own layer under the proofs of this seat, part H: what calls of the program come to on an abstract heap. No condition. -/
import Derived.Test.YtiakeffhecpddaaGreatG
import Derived.Test.YtiakeffhecpddaaGreatTab
set_option linter.unusedSimpArgs false
set_option linter.unusedVariables false
namespace Go.Proofs.Ab
open Go Go.Proofs
variable {w0 : World} {h : aA}
theorem dS (rows : List (List AV)) {es : Nat} (full : Bool) {L : aA} (k : Nat) (hk : L[k]? = some (some (.row rows.flatten))) (hr : ∀ c ∈ rows,c.length = es) : Sl w0 (h ++ L) es (.sl (.own (h.length + k) 0) rows.length es full) rows := by
 have hkl : k < L.length := by
  rcases Nat.lt_or_ge k L.length with a | a
  · exact a
  · rw [List.getElem?_eq_none a] at hk; cases hk
 refine .inr ⟨_,full,⟨es,rfl,iY⟩,by simp [Pl.bdd]; exact hkl,fun j c hc => ?_⟩
 simp only [Pl.add,rdn]
 rw [qI (by omega),Nat.add_sub_cancel_left,hk]
 simp only [Nat.zero_add]
 have hlen : ∀ (rows : List (List AV)),(∀ c ∈ rows,c.length = es) → rows.flatten.length = rows.length * es := fun rows => by
  induction rows with
  | nil => intro _; simp
  | cons x xs ih => intro hx; simp [ih (fun c hc => hx c (by simp [hc])),hx x (by simp),Nat.add_mul]; omega
 have hjl := aJ hc
 have key : ∀ (rows : List (List AV)) (j : Nat) c,(∀ c ∈ rows,c.length = es) → rows[j]? = some c → (rows.flatten.drop (j * es)).take es = c := fun rows => by
  induction rows with
  | nil => intro j c _ hc; simp at hc
  | cons x xs ih =>
   intro j c hx hc
   have hxl := hx x (by simp)
   cases j with
   | zero => simp at hc; subst hc; simp [← hxl]
   | succ j =>
    have := ih j c (fun c hc => hx c (by simp [hc])) (by simpa using hc)
    rw [List.flatten_cons,Nat.succ_mul,Nat.add_comm,← hxl,← List.drop_drop,List.drop_left,hxl]; exact this
 rw [if_pos (by rw [hlen rows hr]; calc j * es + es = (j + 1) * es := by rw [Nat.add_mul]; omega
                                        _ ≤ rows.length * es := Nat.mul_le_mul_right _ hjl),key rows j c hr hc]
theorem aM {α : Type} {l : List α} {i : Nat} {x : α} (e : l[i]? = some x) : i < l.length := (List.getElem?_eq_some_iff.1 e).1
theorem Sl.lt {es : Nat} {v : AV} {rows : List (List AV)} (s : Sl w0 h es v rows) {j : Nat} (hj : j < rows.length) : ∃ p : Pl,cS es v (some j) = some (.ptr p) ∧ ∀ L c,rows[j]? = some c → rdn w0 (h ++ L) p es = some c := by
 obtain ⟨_,p,h1,h2,_⟩ := s.use
 exact ⟨_,h1 j hj,fun L c hc => dU (h2 j c hc)⟩
def SlI (w0 : World) (h : aA) (v : AV) (l : List Int) : Prop := Sl w0 h 1 v (l.map fun z => [.int .i64 z])
theorem SlI.use {v : AV} {l : List Int} (s : SlI w0 h v l) : eH v = some (.int .i64 l.length) ∧ ∃ q : Pl,(∀ j,j < l.length → cS 1 v (some j) = some (.ptr (q.add j))) ∧ ∀ j (hj : j < l.length) L,rd w0 (h ++ L) (q.add j) = some (.int .i64 l[j]) := by
 obtain ⟨ln,q,ix,row,_⟩ := Sl.use s
 simp only [List.length_map,Nat.mul_one] at ln ix row
 refine ⟨ln,q,ix,fun j hj L => ?_⟩
 have := cV (row j [.int .i64 l[j]] (by simp [hj])) (o := 0) (x := .int .i64 l[j]) rfl
 rw [show (q.add j).add 0 = q.add j by rw [Pl.add_add]; rfl] at this
 exact iU this
theorem vT {H : aA} {es b n io k : Nat} {ov : AV} {vs x : List AV} {f : Bool} (hov : n = 0 ∧ ov = .nilS ∧ vs = [] ∨ n ≠ 0 ∧ ov = .sl (.own io 0) n es false ∧ H[io]? = some (some (.row vs)) ∧ vs.length = n * es)
 (hk : H[k]? = some (some (.row x))) (hx : x.length = es) (ho : x.all one = true) (hb : b ≤ 1000000) (hn : n ≤ 1000000) :
 ∃ G,eV w0 H es b ov (.sl (.own k 0) 1 es f) = some (.sl (.own H.length 0) (n + 1) es false,G) ∧ G.length = H.length + 1 ∧ G[H.length]? = some (some (.row (vs ++ x))) ∧ ∀ (i : Nat) c,(n ≠ 0 → i ≠ io) → H[i]? = some (some c) → G[i]? = some (some c) := by
 have r1 : rdn w0 H (.own k 0) (1 * es) = some x := by
  simp only [rdn,hk]; simp [hx]; rw [← hx]; simp
 rcases hov with ⟨h1,h2,h3⟩ | ⟨h1,h2,h3,h4⟩
 · subst h1; subst h2; subst h3
   refine ⟨H ++ [some (.row x)],?_,by simp,by simp,fun i c _ e => aB e⟩
   simp only [eV,fY,iY,if_true,r1,Option.map_some,Option.bind_some]
   rw [if_neg (by omega),if_pos ⟨by omega,ho⟩]
   simp [jG]
 · have hlt := aM h3
   have r2 : rdn w0 H (.own io 0) (n * es) = some vs := by
    simp only [rdn,h3]; simp [h4]; rw [← h4]; simp
   have hsz : (n + 1) * (b + 1) ≤ 2 ^ 40 := Nat.le_trans (Nat.mul_le_mul (show n + 1 ≤ 1000001 by omega) (show b + 1 ≤ 1000001 by omega)) (by decide)
   refine ⟨H.set io none ++ [some (.row (vs ++ x))],?_,by simp,by simp,fun i c hi e => ?_⟩
   · rw [h2]
     simp only [eV,fY,iY,if_true,r1,Option.map_some,Option.bind_some]
     rw [if_neg (by omega),if_pos ⟨trivial,hsz,ho⟩]
     simp only [Bool.false_eq_true,if_false,r2,Option.bind_some]
   · refine aB ?_
     rw [qB fun e2 => hi h1 e2.symm]; exact e
structure Gro (h H : aA) (es n : Nat) (ov : AV) (vs : List AV) : Prop where
 sub : aD h H
 own : n = 0 ∧ ov = .nilS ∧ vs = [] ∨ ∃ io,h.length ≤ io ∧ n ≠ 0 ∧ ov = .sl (.own io 0) n es false ∧ H[io]? = some (some (.row vs)) ∧ vs.length = n * es
theorem Gro.nil {H : aA} {es : Nat} (s : aD h H) : Gro h H es 0 .nilS [] := ⟨s,.inl ⟨rfl,rfl,rfl⟩⟩
theorem Gro.app {H L : aA} {es n : Nat} {ov : AV} {vs : List AV} (g : Gro h H es n ov vs) : Gro h (H ++ L) es n ov vs := by
 refine ⟨g.sub.app,?_⟩
 rcases g.own with h1 | ⟨io,h1,h2,h3,h4,h5⟩
 · exact .inl h1
 · exact .inr ⟨io,h1,h2,h3,aB h4,h5⟩
theorem Gro.more {H : aA} {es b n k : Nat} {ov : AV} {vs x : List AV} {f : Bool} (g : Gro h H es n ov vs) (hk : H[k]? = some (some (.row x))) (hx : x.length = es) (ho : x.all one = true) (hb : b ≤ 1000000) (hn : n ≤ 1000000) :
 ∃ G,eV w0 H es b ov (.sl (.own k 0) 1 es f) = some (.sl (.own H.length 0) (n + 1) es false,G) ∧ Gro h G es (n + 1) (.sl (.own H.length 0) (n + 1) es false) (vs ++ x) := by
 have hlen : vs.length = n * es := by
  rcases g.own with ⟨h1,_,h3⟩ | ⟨_,_,_,_,_,h5⟩
  · subst h1; subst h3; simp
  · exact h5
 have hov : ∃ io,(n ≠ 0 → h.length ≤ io) ∧ (n = 0 ∧ ov = .nilS ∧ vs = [] ∨ n ≠ 0 ∧ ov = .sl (.own io 0) n es false ∧ H[io]? = some (some (.row vs)) ∧ vs.length = n * es) := by
  rcases g.own with h1 | ⟨io,h1,h2,h3,h4,h5⟩
  · exact ⟨0,fun h => absurd h1.1 h,.inl h1⟩
  · exact ⟨io,fun _ => h1,.inr ⟨h2,h3,h4,h5⟩⟩
 obtain ⟨io,hio,hov⟩ := hov
 obtain ⟨G,e1,e2,e3,e4⟩ := vT (w0 := w0) (b := b) (f := f) hov hk hx ho hb hn
 have hs := g.sub
 refine ⟨G,e1,⟨⟨by have := hs.1; omega,fun i c e => e4 i c (fun h0 => by have := hio h0; have := aM e; omega) (hs.2 i c e)⟩,.inr ⟨H.length,hs.1,by omega,rfl,e3,by rw [List.length_append,hlen,hx,Nat.succ_mul]⟩⟩⟩
theorem Gro.sl {H : aA} {es n : Nat} {ov : AV} {rows : List (List AV)} (g : Gro h H es n ov rows.flatten) (hr : ∀ c ∈ rows,c.length = es) (hn : n = rows.length) (hes : es ≠ 0) : Sl w0 H es ov rows := by
 rcases g.own with ⟨h1,h2,h3⟩ | ⟨io,h1,h2,h3,h4,h5⟩
 · refine .inl ⟨h2,?_⟩
   rw [hn] at h1; exact List.eq_nil_of_length_eq_zero h1
 · subst h3
   have hlt := aM h4
   have e : H = H.take io ++ H.drop io := (List.take_append_drop io H).symm
   have hl : (H.take io).length = io := by rw [List.length_take]; omega
   have := dS (w0 := w0) (h := H.take io) rows (es := es) false (L := H.drop io) 0 (by rw [List.getElem?_drop,Nat.add_zero]; exact h4) hr
   rw [← e,hl,Nat.add_zero,← hn] at this
   exact this
theorem rI (l : List Int) : cF l = (l.map fun z => [AV.int .i64 z]).flatten := by
 induction l with
 | nil => rfl
 | cons a l ih => simp [cF] at ih ⊢; exact ih
theorem Gro.sli {H : aA} {n : Nat} {ov : AV} {l : List Int} (g : Gro h H 1 n ov (cF l)) (hn : n = l.length) : SlI w0 H ov l := by
 rw [rI] at g
 exact g.sl (by simp) (by simpa using hn) (by omega)
theorem vU {H : aA} {es b : Nat} {rows : List (List AV)} {y : AV} (s : Sl w0 H es y rows) (hr : rows ≠ []) (ho : ∀ c ∈ rows,c.all one = true) (hb : b ≤ 1000000) (hn2 : rows.length ≤ 1000000) :
 eV w0 H es b .nilS y = some (.sl (.own H.length 0) rows.length es false,H ++ [some (.row rows.flatten)]) := by
 rcases s with ⟨s1,s2⟩ | ⟨q,full,s1,s2,s3⟩
 · exact absurd s2 hr
 · obtain ⟨es',rfl,he⟩ := s1
   have hr2 := Sl.all hr s3
   have hne : rows.length ≠ 0 := fun e => hr (List.eq_nil_of_length_eq_zero e)
   have hsz : rows.length * (b + 1) ≤ 2 ^ 40 := Nat.le_trans (Nat.mul_le_mul hn2 (show b + 1 ≤ 1000001 by omega)) (by decide)
   have ho2 : rows.flatten.all one = true := by
    rw [List.all_eq_true]; intro x hx
    obtain ⟨c,hc,hx⟩ := List.mem_flatten.1 hx
    exact List.all_eq_true.1 (ho c hc) x hx
   simp only [eV,fY,he,if_true,hr2,Option.map_some,Option.bind_some]
   rw [if_neg hne,if_pos ⟨hsz,ho2⟩]
   simp [jG]
def Gr2 (H : aA) (es n io : Nat) (ov : AV) (vs : List AV) : Prop := n = 0 ∧ ov = .nilS ∧ vs = [] ∨ n ≠ 0 ∧ ov = .sl (.own io 0) n es false ∧ H[io]? = some (some (.row vs)) ∧ vs.length = n * es
theorem Gr2.sub {G H : aA} {es n io : Nat} {ov : AV} {vs : List AV} (g : Gr2 G es n io ov vs) (s : aD G H) : Gr2 H es n io ov vs := by
 rcases g with h1 | ⟨h1,h2,h3,h4⟩
 · exact .inl h1
 · exact .inr ⟨h1,h2,s.2 _ _ h3,h4⟩
def mk (n io : Nat) (H : aA) : aA := if n = 0 then H else H.set io none
theorem Gr2.more {H : aA} {es b n io k : Nat} {ov : AV} {vs x : List AV} {f : Bool} (g : Gr2 H es n io ov vs) (hk : H[k]? = some (some (.row x))) (hx : x.length = es) (ho : x.all one = true) (hb : b ≤ 1000000) (hn : n ≤ 1000000) :
 ∃ G,eV w0 H es b ov (.sl (.own k 0) 1 es f) = some (.sl (.own H.length 0) (n + 1) es false,G) ∧ Gr2 G es (n + 1) H.length (.sl (.own H.length 0) (n + 1) es false) (vs ++ x) ∧ aD (mk n io H) (mk (n + 1) H.length G) ∧ G.length = H.length + 1 := by
 have hlen : vs.length = n * es := by
  rcases g with ⟨h1,_,h3⟩ | ⟨_,_,_,h5⟩
  · subst h1; subst h3; simp
  · exact h5
 obtain ⟨G,e1,e2,e3,e4⟩ := vT (w0 := w0) (b := b) (f := f) g hk hx ho hb hn
 refine ⟨G,e1,.inr ⟨by omega,rfl,e3,by rw [List.length_append,hlen,hx,Nat.succ_mul]⟩,⟨?_,fun i c e => ?_⟩,e2⟩
 · simp only [mk]; split <;> (rw [if_neg (by omega)]; simp; omega)
 · have hi := aM e
   have hil : i < H.length := by simp only [mk] at hi; split at hi <;> simpa using hi
   simp only [mk] at e ⊢
   rw [if_neg (by omega),qB (by omega)]
   split at e
   · exact e4 i c (fun h => absurd (by assumption) h) e
   · by_cases h2 : io = i
     · subst h2
       rw [qF hil] at e; cases e
     · rw [qB h2] at e
       exact e4 i c (fun _ => fun h => h2 h.symm) e
theorem aD.set {G H : aA} (s : aD G H) (i : Nat) : aD (G.set i none) (H.set i none) := by
 refine ⟨by simpa using s.1,fun j c e => ?_⟩
 by_cases e2 : i = j
 · subst e2
   have hl := aM e
   rw [qF (by simpa using hl)] at e; cases e
 · rw [qB e2] at e ⊢; exact s.2 j c e
theorem xS {n io : Nat} {H : aA} : aD (mk n io H) H := by unfold mk; split; exact aD.refl; exact aD.msk
theorem tH {n io : Nat} {G H : aA} (s : aD G H) : aD (mk n io G) (mk n io H) := by unfold mk; split; exact s; exact s.set io
section
variable {fr : Fr}
def bdK (n : Nat) (l h : Option Nat) (m : Option (Option Nat)) : Option (Nat × Nat × Option Nat) := match l,h,m with
 | some l,some h,none => if l ≤ h ∧ h ≤ n then some (l,h,none) else none
 | some l,some h,some (some m) => if l ≤ h ∧ h ≤ m ∧ m ≤ n then some (l,h,some m) else none
 | _,_,_ => none
@[go_sem] theorem bdK_2 {n l h : Nat} : bdK n (some l) (some h) none = if l ≤ h ∧ h ≤ n then some (l,h,none) else none := (rfl)
@[go_sem] theorem bdK_3 {n l h m : Nat} : bdK n (some l) (some h) (some (some m)) = if l ≤ h ∧ h ≤ m ∧ m ≤ n then some (l,h,some m) else none := (rfl)
@[go_sem] theorem bounds_0 {n : Nat} : bR fr n none none none = some (0,n,none) := by simp [bR]
@[go_sem] theorem bounds_h {n : Nat} {y : Opd} : bR fr n none (some y) none = bdK n (some 0) (bS (y.ev fr)) none := by
 simp only [bR,bdK]; cases bS (y.ev fr) <;> rfl
@[go_sem] theorem bounds_l {n : Nat} {x : Opd} : bR fr n (some x) none none = bdK n (bS (x.ev fr)) (some n) none := by
 simp only [bR,bdK]; cases bS (x.ev fr) <;> rfl
@[go_sem] theorem bounds_lh {n : Nat} {x y : Opd} : bR fr n (some x) (some y) none = bdK n (bS (x.ev fr)) (bS (y.ev fr)) none := by
 simp only [bR,bdK]; cases bS (x.ev fr) <;> cases bS (y.ev fr) <;> rfl
@[go_sem] theorem bounds_hm {n : Nat} {y z : Opd} : bR fr n none (some y) (some z) = bdK n (some 0) (bS (y.ev fr)) (some (bS (z.ev fr))) := by
 simp only [bR,bdK]; cases bS (y.ev fr) <;> cases bS (z.ev fr) <;> rfl
def slK (p : Pl) (len es : Nat) (full : Bool) (b : Option (Nat × Nat × Option Nat)) : Option AV := b.map fun b => .sl (p.add (b.1 * es)) (b.2.1 - b.1) es (eO b.2.2 b.2.1 (full && b.2.1 == len))
@[go_sem] theorem slcV_sl {es : Nat} {p : Pl} {len : Nat} {full : Bool} {lo hi mx : Option Opd} : slcV es fr (.sl p len es full) lo hi mx = slK p len es full (bR fr len lo hi mx) := by
 simp only [slcV,iY,if_true]; rfl
@[go_sem] theorem slK_s {p : Pl} {len es l h : Nat} {full : Bool} {m : Option Nat} : slK p len es full (some (l,h,m)) = some (.sl (p.add (l * es)) (h - l) es (eO m h (full && h == len))) := (rfl)
@[go_sem] theorem slK_i {p : Pl} {len es : Nat} {full : Bool} {c : Prop} [Decidable c] {x : Nat × Nat × Option Nat} : slK p len es full (if c then some x else none) = if c then slK p len es full (some x) else none := by split <;> rfl
@[go_sem] theorem fullOf_n {h : Nat} {d : Bool} : eO none h d = d := (rfl)
@[go_sem] theorem fullOf_s {m h : Nat} {d : Bool} : eO (some m) h d = (m == h) := (rfl)
def zM (n es i o : Nat) (b : Option (Option Blk)) (q : Option (Nat × Nat × Option Nat)) : Option AV := match b with
 | some (some (.row c)) => if o + n * es ≤ c.length then q.map fun b => .sl (.own i (o + b.1 * es)) (b.2.1 - b.1) es (eO b.2.2 b.2.1 (b.2.1 == n)) else none
 | _ => none
def aBX (n es : Nat) (x : AV) (h : aA) (q : Option (Nat × Nat × Option Nat)) : Option AV := match x with
 | .ptr (.own i o) => zM n es i o h[i]? q
 | _ => none
@[go_sem] theorem slcaV_p {n es i o : Nat} {q : Option (Nat × Nat × Option Nat)} : aBX n es (.ptr (.own i o)) h q = zM n es i o h[i]? q := (rfl)
@[go_sem] theorem slcaB_r {n es i o l hh : Nat} {m : Option Nat} {c : List AV} : zM n es i o (some (some (.row c))) (some (l,hh,m)) = if o + n * es ≤ c.length then some (.sl (.own i (o + l * es)) (hh - l) es (eO m hh (hh == n))) else none := (rfl)
@[go_sem] theorem aop_slca {n es : Nat} {x : Opd} {lo hi mx : Option Opd} : aop w0 (.slca n es x lo hi mx) fr h = onV (aBX n es (x.ev fr) h (bR fr n lo hi mx)) h := by
 simp only [aop,aBX]
 generalize Opd.ev fr x = a
 generalize bR fr n lo hi mx = q
 cases a <;> try rfl
 rename_i p
 cases p with
 | old a => rfl
 | own i o =>
  simp only [zM]
  cases h[i]? with
  | none => rfl
  | some b =>
   cases b with
   | none => rfl
   | some b =>
    cases b with
    | row c =>
     simp only
     split
     · cases q <;> rfl
     · rfl
    | map es => rfl
    | loop _ _ _ _ _ _ _ => rfl
end
theorem aBY {α : Type} {l : List α} {i : Nat} {x : α} (h : l[i]? = some x) : l.set i x = l := by
 refine List.ext_getElem? fun k => ?_
 rw [List.getElem?_set]
 split
 · rename_i e; subst e; rw [if_pos (aM h),h]
 · rfl
attribute [go_sem] Nat.reduceEqDiff Nat.reduceAdd Nat.reduceSub Nat.reduceMul Nat.reduceLT Nat.reduceLeDiff Int.reduceLE Int.reduceLT Int.reduceAdd Int.reduceSub Int.reduceMul Int.reduceEq Int.reduceBEq Int.reduceBNe Int.reduceNeg Int.reduceToNat reduceCtorEq
attribute [go_sem ↓] reduceIte
end Go.Proofs.Ab
namespace Go.Proofs.Ab
open Go Go.Proofs
variable {w0 : World} {h : aA}
attribute [local irreducible] ACall bN dG aQ dA rvC lp rg dr ex un rv
theorem aO {α : Type} {l : List α} {i : Nat} {d : α} (h : i < l.length) : l.getD i d = l[i] := by rw [List.getD_eq_getElem?_getD,qA h]; rfl
def inB (x lo hi : Int) : Bool := decide (lo ≤ x) && decide (x ≤ hi)
theorem Gro.put {H : aA} {es n : Nat} {ov : AV} {vs : List AV} (g : Gro h H es n ov vs) (hn : n ≠ 0) : ∃ io,h.length ≤ io ∧ ov = .sl (.own io 0) n es false ∧ H[io]? = some (some (.row vs)) ∧ vs.length = n * es ∧ ∀ vs' : List AV,vs'.length = vs.length → Gro h (H.set io (some (.row vs'))) es n ov vs' := by
 rcases g.own with ⟨h1,_⟩ | ⟨io,h1,h2,h3,h4,h5⟩
 · exact absurd h1 hn
 · refine ⟨io,h1,h3,h4,h5,fun vs' hl => ⟨⟨by rw [List.length_set]; exact g.sub.1,fun i b e => ?_⟩,.inr ⟨io,h1,h2,h3,?_,by rw [hl]; exact h5⟩⟩⟩
   · have hi := aM e
     rw [qB (by omega)]
     exact g.sub.2 i b e
   · rw [qF (aM h4)]
theorem dK {n : Nat} {p : Nat → Bool} : (List.range n).all p = true ↔ ∀ i,i < n → p i = true := by
 rw [List.all_eq_true]; exact ⟨fun x i hi => x i (List.mem_range.2 hi),fun x i hi => x i (List.mem_range.1 hi)⟩
theorem rd_0 {p : Pl} {n : Nat} {l : List AV} (e : rdn w0 h p n = some l) {x : AV} (hx : l[0]? = some x) : rd w0 h p = some x := by
 have := cV e hx
 rwa [show p.add 0 = p by cases p <;> simp [Pl.add,Addr.add]] at this
def NS {α : Type} (w0 : World) (h : aA) (es : Nat) (R : α → List AV → Prop) (v : AV) (l : List α) : Prop :=
 ∃ rows : List (List AV),rows.length = l.length ∧ Sl w0 h es v rows ∧ ∀ (j : Nat) x c,l[j]? = some x → rows[j]? = some c → R x c
section
variable {α : Type} {es : Nat} {R R' : α → List AV → Prop} {v : AV} {l : List α}
theorem NS.mono {H : aA} (s : NS w0 h es R v l) (t : aD h H) (m : ∀ x c,R x c → R' x c) : NS w0 H es R' v l := by
 obtain ⟨rows,h1,h2,h3⟩ := s
 exact ⟨rows,h1,h2.sub t,fun j x c a b => m _ _ (h3 j x c a b)⟩
theorem NS.len (s : NS w0 h es R v l) : eH v = some (.int .i64 l.length) := by
 obtain ⟨rows,h1,h2,h3⟩ := s
 have := h2.use.1
 rw [h1] at this; exact this
theorem NS.bdd (s : NS w0 h es R v l) {N : Nat} (hN : h.length ≤ N) : v.bdd N := by
 obtain ⟨rows,h1,h2,h3⟩ := s
 exact h2.bdd hN
theorem NS.one (s : NS w0 h es R v l) : Ab.one v = true ∧ cellsOf v = some [v] := by
 obtain ⟨rows,h1,h2,h3⟩ := s
 exact h2.one
theorem NS.at_ (s : NS w0 h es R v l) {j : Nat} (hj : j < l.length) : ∃ (p : Pl) (c : List AV),cS es v (some j) = some (.ptr p) ∧ (∀ L,rdn w0 (h ++ L) p es = some c) ∧ R l[j] c := by
 obtain ⟨rows,h1,h2,h3⟩ := s
 obtain ⟨p,p1,p2⟩ := h2.lt (j := j) (by omega)
 obtain ⟨c,hc⟩ : ∃ c,rows[j]? = some c := ⟨_,qA (by omega)⟩
 exact ⟨p,c,p1,fun L => p2 L c hc,h3 j _ c (qA hj) hc⟩
theorem NS.nil : NS w0 h es R .nilS ([] : List α) := ⟨[],rfl,.inl ⟨rfl,rfl⟩,fun j x c a b => by simp at a⟩
end
theorem Gro.gr2 {H : aA} {es n : Nat} {ov : AV} {vs : List AV} (g : Gro h H es n ov vs) : ∃ io,h.length ≤ io ∧ Gr2 H es n io ov vs := by
 rcases g.own with h1 | ⟨io,h1,h2,h3,h4,h5⟩
 · exact ⟨h.length,Nat.le_refl _,.inl h1⟩
 · exact ⟨io,h1,.inr ⟨h2,h3,h4,h5⟩⟩
theorem Gr2.mask {H : aA} {es n io i : Nat} {ov : AV} {vs : List AV} (g : Gr2 H es n io ov vs) (hi : i ≠ io) : Gr2 (H.set i none) es n io ov vs := by
 rcases g with h1 | ⟨h1,h2,h3,h4⟩
 · exact .inl h1
 · exact .inr ⟨h1,h2,by rw [qB hi]; exact h3,h4⟩
theorem Gr2.gro {H : aA} {es n io : Nat} {ov : AV} {vs : List AV} (g : Gr2 H es n io ov vs) : Gro [] H es n ov vs := by
 refine ⟨⟨Nat.zero_le _,fun i b e => by simp at e⟩,?_⟩
 rcases g with h1 | ⟨h1,h2,h3,h4⟩
 · exact .inl h1
 · exact .inr ⟨io,Nat.zero_le _,h1,h2,h3,h4⟩
theorem Gr2.sl {H : aA} {es n io : Nat} {ov : AV} {rows : List (List AV)} (g : Gr2 H es n io ov rows.flatten) (hr : ∀ c ∈ rows,c.length = es) (hn : n = rows.length) (hes : es ≠ 0) : Sl w0 H es ov rows := g.gro.sl hr hn hes
theorem Gro.masked {H : aA} {es n j io : Nat} {ov : AV} {vs : List AV} (g : Gro h H es n ov vs) (hio : j ≠ 0 → io < h.length) : ∃ io2,Gr2 (Ab.mk j io H) es n io2 ov vs := by
 obtain ⟨io2,h1,h2⟩ := g.gr2
 refine ⟨io2,?_⟩
 unfold Ab.mk
 split
 · exact h2
 · rename_i hj
   exact h2.mask (by have := hio hj; omega)
structure GN {α : Type} (w0 : World) (K : aA) (R : aA → α → List AV → Prop) (H : aA) (es io : Nat) (ov : AV) (l : List α) : Prop where
 make ::
 sub : aD K (mk l.length io H)
 ex : ∃ rows : List (List AV),rows.length = l.length ∧ Gr2 H es l.length io ov rows.flatten ∧ (∀ c ∈ rows,c.length = es) ∧ ∀ (j : Nat) x c,l[j]? = some x → rows[j]? = some c → R (mk l.length io H) x c
section
variable {α : Type} {R : aA → α → List AV → Prop}
theorem GN.nil {K H : aA} {es io : Nat} (s : aD K H) : GN w0 K R H es io .nilS ([] : List α) :=
 ⟨by simpa [mk] using s,[],rfl,.inl ⟨rfl,rfl,rfl⟩,by simp,fun j x c a b => by simp at a⟩
theorem GN.ns {K H : aA} {es io : Nat} {ov : AV} {l : List α} (g : GN w0 K R H es io ov l) (hm : ∀ {A B : aA} {x c},aD A B → R A x c → R B x c) (hes : es ≠ 0) : NS w0 H es (R H) ov l := by
 obtain ⟨rows,h1,h2,h3,h4⟩ := g.ex
 exact ⟨rows,h1,h2.sl h3 h1.symm hes,fun j x c a b => hm xS (h4 j x c a b)⟩
theorem GN.more {K H : aA} {es io : Nat} {ov : AV} {l : List α} (g : GN w0 K R H es io ov l) {G : aA} {es' b : Nat} {k : Nat} {f : Bool} {x : α} {c : List AV} (hs : aD (mk l.length io H) (mk l.length io G)) (hown : Gr2 G es l.length io ov ((g.ex.choose).flatten))
 (hm : ∀ {A B : aA} {x c},aD A B → R A x c → R B x c) (hk : G[k]? = some (some (.row c))) (hc : c.length = es) (ho : c.all one = true) (hx : R (mk l.length io G) x c) (hb : b ≤ 1000000) (hn : l.length ≤ 1000000) :
 ∃ G',eV w0 G es b ov (.sl (.own k 0) 1 es f) = some (.sl (.own G.length 0) (l.length + 1) es false,G') ∧ GN w0 K R G' es G.length (.sl (.own G.length 0) (l.length + 1) es false) (l ++ [x]) ∧ aD (mk l.length io G) (mk (l.length + 1) G.length G') ∧ G'.length = G.length + 1 := by
 obtain ⟨G',e1,e2,e3,e4⟩ := hown.more (w0 := w0) (b := b) (f := f) hk hc ho hb hn
 have hsp := g.ex.choose_spec
 obtain ⟨h1,h2,h3,h4⟩ := hsp
 refine ⟨G',e1,⟨by rw [List.length_append,List.length_singleton]; exact (g.sub.trans hs).trans e3,g.ex.choose ++ [c],by simp [h1],by
  rw [List.length_append,List.length_singleton,List.flatten_append]; simpa using e2,fun d hd => ?_,fun j y d hy hd => ?_⟩,e3,e4⟩
 · rcases List.mem_append.1 hd with hd | hd
   · exact h3 d hd
   · rw [List.mem_singleton.1 hd]; exact hc
 · rw [List.length_append,List.length_singleton]
   have hj := aM hy
   rw [List.length_append,List.length_singleton] at hj
   by_cases hjl : j < l.length
   · rw [qH hjl] at hy
     rw [qH (by rw [h1]; exact hjl)] at hd
     exact hm (hs.trans e3) (h4 j y d hy hd)
   · obtain rfl : j = l.length := by omega
     rw [qI (Nat.le_refl _),Nat.sub_self] at hy
     rw [qI (by rw [h1]; exact Nat.le_refl _),h1,Nat.sub_self] at hd
     simp at hy hd
     subst hy; subst hd
     exact hm e3 hx
theorem GN.sub' {K H G : aA} {es io : Nat} {ov : AV} {l : List α} (g : GN w0 K R H es io ov l) (s : aD H G) (hm : ∀ {A B : aA} {x c},aD A B → R A x c → R B x c) : GN w0 K R G es io ov l := by
 obtain ⟨rows,h1,h2,h3,h4⟩ := g.ex
 exact ⟨g.sub.trans (tH s),rows,h1,h2.sub s,h3,fun j x c a b => hm (tH s) (h4 j x c a b)⟩
theorem GN.lt {K H : aA} {es io : Nat} {ov : AV} {l : List α} (g : GN w0 K R H es io ov l) (h : l.length ≠ 0) : io < H.length := by
 obtain ⟨rows,h1,h2,h3,h4⟩ := g.ex
 rcases h2 with h2 | ⟨_,_,h2,_⟩
 · exact absurd h2.1 h
 · exact aM h2
theorem GN.push {K G : aA} {es io : Nat} {ov : AV} {l : List α} (g : GN w0 K R G es io ov l) {b : Nat} {k : Nat} {f : Bool} {x : α} {c : List AV}
 (hm : ∀ {A B : aA} {x c},aD A B → R A x c → R B x c) (hk : G[k]? = some (some (.row c))) (hc : c.length = es) (ho : c.all one = true) (hx : R (mk l.length io G) x c) (hb : b ≤ 1000000) (hn : l.length ≤ 1000000) :
 ∃ G',eV w0 G es b ov (.sl (.own k 0) 1 es f) = some (.sl (.own G.length 0) (l.length + 1) es false,G') ∧ GN w0 K R G' es G.length (.sl (.own G.length 0) (l.length + 1) es false) (l ++ [x]) ∧ aD (mk l.length io G) (mk (l.length + 1) G.length G') ∧ G'.length = G.length + 1 :=
 g.more (es' := 0) aD.refl g.ex.choose_spec.2.1 hm hk hc ho hx hb hn
end
theorem nM {H : aA} {es io : Nat} {full : Bool} {rows : List (List AV)} (hi : H[io]? = some (some (.row rows.flatten))) (hr : ∀ c ∈ rows,c.length = es) : Sl w0 H es (.sl (.own io 0) rows.length es full) rows := by
 have hlt := aM hi
 have e : H = H.take io ++ H.drop io := (List.take_append_drop io H).symm
 have hl : (H.take io).length = io := by rw [List.length_take]; omega
 have := dS (w0 := w0) (h := H.take io) rows (es := es) full (L := H.drop io) 0 (by rw [List.getElem?_drop,Nat.add_zero]; exact hi) hr
 rw [← e,hl,Nat.add_zero] at this
 exact this
structure SlO (w0 : World) (h : aA) (v : AV) (l : List Int) : Prop where
 s : SlI w0 h v l
 e : l = [] → fY w0 h 1 v = some (0,[])
theorem SlO.sub {H : aA} {v : AV} {l : List Int} (a : SlO w0 h v l) (t : aD h H) : SlO w0 H v l := by
 refine ⟨Sl.sub a.s t,fun e => ?_⟩
 have := a.e e
 cases v <;> simp only [fY] at this ⊢
 all_goals first
  | exact this
  | (split at this
     · rename_i h1
       rw [if_pos h1]
       simp only [qD,Prod.mk.injEq] at this ⊢
       obtain ⟨x,h2,h3,h4⟩ := this
       exact ⟨x,t.rdn h2,h3,h4⟩
     · cases this)
  | cases this
theorem aD.setR {G H : aA} (s : aD G H) {i : Nat} {x : Option Blk} (hi : G.length ≤ i) : aD G (H.set i x) :=
 ⟨by rw [List.length_set]; exact s.1,fun j c e => by rw [qB (by have := aM e; omega)]; exact s.2 j c e⟩
theorem Gr2.keep {G H : aA} {es n io : Nat} {ov : AV} {vs : List AV} (g : Gr2 G es n io ov vs) (s : ∀ c,G[io]? = some (some c) → H[io]? = some (some c)) : Gr2 H es n io ov vs := by
 rcases g with h1 | ⟨h1,h2,h3,h4⟩
 · exact .inl h1
 · exact .inr ⟨h1,h2,s _ h3,h4⟩
theorem Gr2.one {H : aA} {es n io : Nat} {ov : AV} {vs : List AV} (g : Gr2 H es n io ov vs) : Ab.one ov = true ∧ cellsOf ov = some [ov] := by
 rcases g with ⟨_,rfl,_⟩ | ⟨_,rfl,_⟩ <;> exact ⟨rfl,rfl⟩
theorem Gro.gro1 {K H : aA} {es n : Nat} {ov : AV} {vs : List AV} (g : Gro K H es n ov vs) : Ab.one ov = true ∧ cellsOf ov = some [ov] := by
 rcases g.own with ⟨_,rfl,_⟩ | ⟨_,_,_,rfl,_⟩ <;> exact ⟨rfl,rfl⟩
theorem Gro.at1 {K H : aA} {es n i : Nat} {ov : AV} {vs : List AV} {b : Blk} (g : Gro K H es n ov vs) (hi : H[i]? = some (some b)) : Gro (K.set i (some b)) H es n ov vs := by
 refine ⟨⟨by rw [List.length_set]; exact g.sub.1,fun j c e => ?_⟩,?_⟩
 · by_cases e2 : i = j
   · subst e2
     rw [List.getElem?_set_self' ] at e
     cases e3 : K[i]? with
     | none => rw [e3] at e; cases e
     | some z => rw [e3] at e; cases e; exact hi
   · rw [qB e2] at e; exact g.sub.2 j c e
 · rw [List.length_set]; exact g.own
theorem Gro.unat {K H : aA} {es n i : Nat} {ov : AV} {vs : List AV} {b : Blk} (g : Gro (K.set i (some b)) H es n ov vs) (hi : K[i]? = some none) : Gro K H es n ov vs ∧ H[i]? = some (some b) := by
 have hlt := aJ hi
 refine ⟨⟨⟨by have := g.sub.1; rwa [List.length_set] at this,fun j c e => ?_⟩,?_⟩,g.sub.2 _ _ (qF hlt)⟩
 · refine g.sub.2 j c ?_
   rw [qB (fun e2 => by subst e2; rw [hi] at e; cases e)]; exact e
 · have := g.own
   rwa [List.length_set] at this
theorem Gro.setN {K H : aA} {es n i : Nat} {ov : AV} {vs : List AV} {b : Option Blk} (g : Gro K H es n ov vs) (hi : K[i]? = some none) : Gro K (H.set i b) es n ov vs := by
 have hlt := aJ hi
 refine ⟨⟨by rw [List.length_set]; exact g.sub.1,fun j c e => ?_⟩,?_⟩
 · rw [qB (fun e2 => by subst e2; rw [hi] at e; cases e)]; exact g.sub.2 j c e
 · rcases g.own with h1 | ⟨io,h1,h2,h3,h4,h5⟩
   · exact .inl h1
   · exact .inr ⟨io,h1,h2,h3,by rw [qB (by omega)]; exact h4,h5⟩
theorem SlI.at_ {x : AV} {l : List Int} (a : SlI w0 h x l) {j : Nat} (hj : j < l.length) : ∃ p : Pl,cS 1 x (some j) = some (.ptr p) ∧ (∀ L,rd w0 (h ++ L) p = some (.int .i64 l[j])) ∧ rd w0 h p = some (.int .i64 l[j]) := by
 obtain ⟨_,q,qi,qr⟩ := SlI.use a
 have := qr j hj []
 rw [List.append_nil] at this
 exact ⟨_,qi j hj,qr j hj,this⟩
theorem aD.set2 {A B : aA} {i : Nat} (s : aD A B) (hi : i < A.length) : aD (A.set i none) (B.set i none) := ⟨by simp only [List.length_set]; exact s.1,fun j b e => by
 by_cases q : i = j
 · subst q; rw [qF hi] at e; cases e
 · rw [qB q] at e ⊢; exact s.2 _ _ e⟩
structure OL {α : Type} (w0 : World) (R : aA → α → List AV → Prop) (H : aA) (es io : Nat) (ov : AV) (l : List α) : Prop where
 ex : ∃ (rows : List (List AV)) (f : Bool),rows.length = l.length ∧ ov = .sl (.own io 0) l.length es f ∧ H[io]? = some (some (.row rows.flatten)) ∧ (∀ c ∈ rows,c.length = es ∧ c.all one = true) ∧ ∀ (j : Nat) x c,l[j]? = some x → rows[j]? = some c → R (H.set io none) x c
section
variable {α : Type} {R : aA → α → List AV → Prop}
theorem OL.one {H : aA} {es k : Nat} {f : Bool} {x : α} {c : List AV} (hk : H[k]? = some (some (.row c))) (hc : c.length = es) (ho : c.all Ab.one = true) (hx : R (H.set k none) x c) : OL w0 R H es k (.sl (.own k 0) 1 es f) [x] :=
 ⟨[c],f,rfl,rfl,by simpa using hk,fun d hd => by simp only [List.mem_singleton] at hd; subst hd; exact ⟨hc,ho⟩,fun j y d hy hd => by
  have := aM hy
  obtain rfl : j = 0 := by simpa using this
  simp at hy hd
  subst hy; subst hd; exact hx⟩
theorem OL.ns {H : aA} {es io : Nat} {ov : AV} {l : List α} (g : OL w0 R H es io ov l) (hm : ∀ {A B : aA} {x c},aD A B → R A x c → R B x c) : NS w0 H es (R H) ov l := by
 obtain ⟨rows,f,h1,h2,h3,h4,h5⟩ := g.ex
 refine ⟨rows,h1,?_,fun j x c a b => hm aD.msk (h5 j x c a b)⟩
 rw [h2,← h1]
 exact nM h3 fun c hc => (h4 c hc).1
theorem OL.lt {H : aA} {es io : Nat} {ov : AV} {l : List α} (g : OL w0 R H es io ov l) : io < H.length := by
 obtain ⟨rows,f,h1,h2,h3,h4,h5⟩ := g.ex
 exact aM h3
theorem OL.sub' {H G : aA} {es io : Nat} {ov : AV} {l : List α} (g : OL w0 R H es io ov l) (s : aD H G) (hm : ∀ {A B : aA} {x c},aD A B → R A x c → R B x c) : OL w0 R G es io ov l := by
 obtain ⟨rows,f,h1,h2,h3,h4,h5⟩ := g.ex
 exact ⟨rows,f,h1,h2,s.2 _ _ h3,h4,fun j x c a b => hm (s.set2 (aM h3)) (h5 j x c a b)⟩
theorem OL.more {H : aA} {es io b : Nat} {ov y : AV} {l l' : List α} (g : OL w0 R H es io ov l) (hm : ∀ {A B : aA} {x c},aD A B → R A x c → R B x c) (ho : ∀ {A : aA} {x c},R A x c → c.all Ab.one = true) (hcl : ∀ {A : aA} {x c},R A x c → c.length = es)
 (s : NS w0 (H.set io none) es (R (H.set io none)) y l') (hne : l' ≠ []) (hb : b ≤ 1000000) (hn : l.length + l'.length ≤ 1000000) :
 ∃ G,eV w0 H es b ov y = some (.sl (.own H.length 0) (l.length + l'.length) es false,G) ∧ OL w0 R G es H.length (.sl (.own H.length 0) (l.length + l'.length) es false) (l ++ l') ∧ aD (H.set io none) (G.set H.length none) ∧ G.length = H.length + 1 := by
 obtain ⟨rows,f,h1,h2,h3,h4,h5⟩ := g.ex
 obtain ⟨rows',r1,r2,r3⟩ := s
 have hlt := aM h3
 have hrne : rows' ≠ [] := fun e => hne (List.eq_nil_of_length_eq_zero (by rw [← r1,e]; rfl))
 have hr' : ∀ c ∈ rows',c.length = es ∧ c.all Ab.one = true := fun c hc => by
  obtain ⟨j,hj,e⟩ := List.mem_iff_getElem.1 hc
  have e1 : rows'[j]? = some c := by rw [qA hj,e]
  have e2 := qA (show j < l'.length by omega)
  exact ⟨hcl (r3 j _ c e2 e1),ho (r3 j _ c e2 e1)⟩
 have hp : rdn w0 H (.own io 0) (l.length * es) = some rows.flatten := by
  have : rows.flatten.length = l.length * es := by
   rw [← h1]
   clear h1 h2 h3 h5
   induction rows with
   | nil => simp
   | cons c rows ih => rw [List.flatten_cons,List.length_append,ih fun d hd => h4 d (by simp [hd]),(h4 c (by simp)).1,List.length_cons,Nat.succ_mul]; omega
  simp only [rdn,h3]
  rw [if_pos (by omega),List.drop_zero,← this,List.take_length]
 have key : ∀ G : aA,G.length = H.length + 1 → (∀ i c,i ≠ io → H[i]? = some (some c) → G[i]? = some (some c)) → G[H.length]? = some (some (.row (rows.flatten ++ rows'.flatten))) →
  OL w0 R G es H.length (.sl (.own H.length 0) (l.length + l'.length) es false) (l ++ l') ∧ aD (H.set io none) (G.set H.length none) := fun G g1 g2 g3 => by
  have hs : aD (H.set io none) (G.set H.length none) := by
   refine ⟨by simp only [List.length_set]; omega,fun i c e => ?_⟩
   have hi := aM e
   rw [List.length_set] at hi
   rw [qB (by omega)]
   by_cases q : io = i
   · subst q; rw [qF hlt] at e; cases e
   · rw [qB q] at e
     exact g2 i c (Ne.symm q) e
  refine ⟨⟨rows ++ rows',false,by simp [h1,r1],by simp,by simpa using g3,fun c hc => ?_,fun j x c hx hc => ?_⟩,hs⟩
  · rcases List.mem_append.1 hc with hc | hc
    · exact h4 c hc
    · exact hr' c hc
  · by_cases hj : j < l.length
    · rw [qH hj] at hx
      rw [qH (by omega)] at hc
      exact hm hs (h5 j x c hx hc)
    · rw [qI (by omega)] at hx
      rw [qI (by omega),h1] at hc
      exact hm hs (r3 _ x c hx hc)
 have r2H : Sl w0 H es y rows' := r2.sub aD.msk
 cases f with
 | true =>
  have := aDC (b := b) r2H hrne (fun c hc => (hr' c hc).2) hp hb (by omega)
  rw [r1] at this
  refine ⟨_,by rw [h2]; exact this,?_⟩
  obtain ⟨k1,k2⟩ := key (H ++ [some (.row (rows.flatten ++ rows'.flatten))]) (by simp) (fun i c _ e => aB e) (by simp)
  exact ⟨k1,k2,by simp⟩
 | false =>
  rcases r2H with ⟨_,e⟩ | ⟨q,full,s1,s2,s3⟩
  · exact absurd e hrne
  obtain ⟨es',rfl,he⟩ := s1
  have hr2 := Sl.all hrne s3
  have hne2 : rows'.length ≠ 0 := fun e => hrne (List.eq_nil_of_length_eq_zero e)
  have hsz : (l.length + rows'.length) * (b + 1) ≤ 2 ^ 40 := Nat.le_trans (Nat.mul_le_mul (show l.length + rows'.length ≤ 1000001 by omega) (show b + 1 ≤ 1000001 by omega)) (by decide)
  have ho2 : rows'.flatten.all Ab.one = true := by
   rw [List.all_eq_true]; intro x hx
   obtain ⟨c,hc,hx⟩ := List.mem_flatten.1 hx
   exact List.all_eq_true.1 (hr' c hc).2 x hx
  have ea : eV w0 H es b (.sl (.own io 0) l.length es false) (.sl q rows'.length es' full) = some (.sl (.own H.length 0) (l.length + l'.length) es false,H.set io none ++ [some (.row (rows.flatten ++ rows'.flatten))]) := by
   simp only [eV,fY,he,iY,if_true,hr2,Option.map_some,Option.bind_some]
   rw [if_neg hne2,if_pos ⟨trivial,hsz,ho2⟩]
   simp only [Bool.false_eq_true,if_false,hp,Option.bind_some]
   simp [r1]
  refine ⟨_,by rw [h2]; exact ea,?_⟩
  obtain ⟨k1,k2⟩ := key (H.set io none ++ [some (.row (rows.flatten ++ rows'.flatten))]) (by simp) (fun i c q e => aB (by rw [qB (Ne.symm q)]; exact e)) (by simp)
  exact ⟨k1,k2,by simp⟩
end
theorem OL.push {α : Type} {R : aA → α → List AV → Prop} {H : aA} {es io b : Nat} {ov : AV} {l : List α} {x : α} {c : List AV} {f : Bool} (g : OL w0 R H es io ov l) (hm : ∀ {A B : aA} {x c},aD A B → R A x c → R B x c) (ho : ∀ {A : aA} {x c},R A x c → c.all Ab.one = true) (hcl : ∀ {A : aA} {x c},R A x c → c.length = es)
 (hx : R (H.set io none) x c) (hb : b ≤ 1000000) (hn : l.length + 1 ≤ 1000000) :
 ∃ G,eV w0 (H ++ [some (.row c)]) es b ov (.sl (.own H.length 0) 1 es f) = some (.sl (.own (H.length + 1) 0) (l.length + 1) es false,G) ∧ OL w0 R G es (H.length + 1) (.sl (.own (H.length + 1) 0) (l.length + 1) es false) (l ++ [x]) ∧ aD (H.set io none) (G.set (H.length + 1) none) ∧ G.length = H.length + 2 := by
 have hio := g.lt
 obtain ⟨H1,eH1⟩ : ∃ H1,H1 = H ++ [some (Blk.row c)] := ⟨_,rfl⟩
 have s1 : aD H H1 := eH1 ▸ aD.refl.app
 have k1 : H1[H.length]? = some (some (.row c)) := by rw [eH1]; simp
 have l1 : H1.length = H.length + 1 := by rw [eH1]; simp
 have hs : aD (H.set io none) (H1.set io none) := s1.set2 hio
 have hns : NS w0 (H1.set io none) es (R (H1.set io none)) (.sl (.own H.length 0) 1 es f) [x] := by
  refine ⟨[c],rfl,nM (rows := [c]) (by rw [qB (by omega)]; simpa using k1) (fun d hd => by simp only [List.mem_singleton] at hd; subst hd; exact hcl hx),fun j y d hy hd => ?_⟩
  have := aM hy
  obtain rfl : j = 0 := by simpa using this
  simp at hy hd
  subst hy; subst hd; exact hm hs hx
 obtain ⟨G,a1,a2,a3,a4⟩ := (g.sub' s1 hm).more (b := b) hm ho hcl hns (by simp) hb (by simpa using hn)
 rw [l1] at a1 a2 a3 a4
 rw [← eH1]
 exact ⟨G,a1,a2,hs.trans a3,a4⟩
structure fG where
 arm : Int
 most : Int
structure dM where
 w : Int
 m : Int
structure dF where
 st : Int
 lo : Int
 hi : Int
structure aS where
 empty : Int
 moment : Int
 takeoff : Int
 landing : Int
 cor : List dM
 sta : List fG
 tank : fG
 reserve : Int
 flo : List fG
structure bU where
 items : List dF
 pump : Bool
 fuel : Int
 blo : Int
 bhi : Int
 llo : Int
 lhi : Int
@[go_sem] def fG.c (s : fG) : List AV := [.int .i64 s.arm,.int .i64 s.most]
@[go_sem] def dM.c (s : dM) : List AV := [.int .i64 s.w,.int .i64 s.m]
@[go_sem] def dF.c (s : dF) : List AV := [.int .i64 s.st,.int .i64 s.lo,.int .i64 s.hi]
@[go_sem] def aS.c (p : aS) (cv sv fv : AV) : List AV := [.int .i64 p.empty,.int .i64 p.moment,.int .i64 p.takeoff,.int .i64 p.landing,cv,sv,.int .i64 p.tank.arm,.int .i64 p.tank.most,.int .i64 p.reserve,fv]
@[go_sem] def bU.c (l : bU) (iv : AV) : List AV := [iv,.bool l.pump,.int .i64 l.fuel,.int .i64 l.blo,.int .i64 l.bhi,.int .i64 l.llo,.int .i64 l.lhi]
structure dX (w0 : World) (h : aA) (p : aS) (cv sv fv : AV) : Prop where
 c : Sl w0 h 2 cv (p.cor.map dM.c)
 s : Sl w0 h 2 sv (p.sta.map fG.c)
 f : Sl w0 h 2 fv (p.flo.map fG.c)
theorem dX.sub {H : aA} {p : aS} {cv sv fv : AV} (a : dX w0 h p cv sv fv) (s : aD h H) : dX w0 H p cv sv fv := ⟨a.c.sub s,a.s.sub s,a.f.sub s⟩
structure SlZ (w0 : World) (h : aA) (es : Nat) (v : AV) (rows : List (List AV)) : Prop where
 s : Sl w0 h es v rows
 e : rows = [] → fY w0 h es v = some (0,[])
theorem SlZ.sub {H : aA} {es : Nat} {v : AV} {rows : List (List AV)} (a : SlZ w0 h es v rows) (t : aD h H) : SlZ w0 H es v rows := by
 refine ⟨a.s.sub t,fun e => ?_⟩
 have := a.e e
 revert this
 unfold fY
 split
 · exact id
 · split
   · intro hh
     simp only [qD] at hh ⊢
     obtain ⟨l,h1,h2⟩ := hh
     exact ⟨l,t.rdn h1,h2⟩
   · exact id
 · exact id
def LegR (w0 : World) (h : aA) (l : bU) (c : List AV) : Prop := ∃ iv,c = l.c iv ∧ SlZ w0 h 3 iv (l.items.map dF.c)
def eU (w0 : World) (h : aA) (v : AV) (l : List bU) : Prop := NS w0 h 7 (LegR w0 h) v l
theorem eU.sub {G H : aA} {v : AV} {l : List bU} (s : eU w0 G v l) (t : aD G H) : eU w0 H v l := NS.mono s t fun _ _ ⟨iv,e,a⟩ => ⟨iv,e,a.sub t⟩
theorem eU.at_ {v : AV} {l : List bU} (s : eU w0 h v l) {j : Nat} (hj : j < l.length) : ∃ (p : Pl) (iv : AV),cS 7 v (some j) = some (.ptr p) ∧ (∀ L,rdn w0 (h ++ L) p 7 = some (l[j].c iv)) ∧ rdn w0 h p 7 = some (l[j].c iv) ∧ SlZ w0 h 3 iv (l[j].items.map dF.c) := by
 obtain ⟨p,c,h1,h2,iv,rfl,h3⟩ := NS.at_ s hj
 exact ⟨p,iv,h1,h2,by have := h2 []; rwa [List.append_nil] at this,h3⟩
theorem vV {l : List fG} {v fv : AV} {p : fG → Bool} (hv : Sl w0 h 2 v (l.map fG.c)) (hn : l.length < 1000000000000) (hf : ∀ x ∈ l,∀ H,aD h H → dA Tryz.prog w0 fv [.agg x.c] H (.bool (p x)) H) : aQ Tryz.prog w0 152 [v,fv] h (.bool (l.all p)) h := by
 refine cK (by simp [AV.bdd]) (aR aI aCL aGa aF9 (qE rfl) fun hb ha => aL ?_)
 obtain ⟨ln,q,ix,row,_⟩ := hv.use
 rw [List.length_map] at ln ix
 rw [List.append_nil]
 simp only [go_sem,mf152,ln]
 refine cG (S := aA) (fun j _ => [(1,fv),(7,v),(8,.int .i64 l.length),(9,.int .i64 j)]) (fun _ s => s) (fun j s => aD h s ∧ (l.take j).all p = true) l.length h ⟨aD.refl,rfl⟩ rfl rfl ?_ ?_
 · rintro j H hj ⟨sH,hall⟩ ih
   refine aH aI wK [1,7,8,9] L152_0.eq_1 ?_
   have e1 : (j : Int) < l.length := by omega
   obtain ⟨x,hx⟩ : ∃ x,x = l[j] := ⟨_,rfl⟩
   have hr : (l.map fG.c)[j]? = some x.c := by rw [List.getElem?_map,qA hj,hx]; rfl
   have r1 := sH.rdn (row j _ hr)
   have s1 : aD H (H ++ [some (Blk.row x.c)]) := aD.refl.app
   have cc := hf x (hx ▸ qG hj) _ (sH.trans s1)
   have b1 : (H ++ [some (Blk.row x.c)])[H.length]? = some (some (.row x.c)) := by simp
   simp only [fG.c] at cc b1 s1
   simp only [go_sem,e1,ix j hj,r1,b1]
   refine aC cc ?_
   have tk : (l.take (j + 1)).all p = ((l.take j).all p && p x) := by rw [List.take_succ_eq_append_getElem hj,List.all_append,hx]; simp
   cases e : p x with
   | false =>
    simp only [go_sem]
    have : l.all p = false := List.all_eq_false.2 ⟨x,hx ▸ qG hj,by rw [e]; simp⟩
    rw [this]
    exact ⟨sH.trans s1,rfl⟩
   | true =>
    simp only [go_sem]
    exact ⟨(by unfold I64; omega),ih _ ⟨sH.trans s1,by rw [tk,hall,e]; rfl⟩⟩
 · rintro H ⟨sH,hall⟩
   refine aH aI wK [1,7,8,9] L152_0.eq_1 ?_
   have e1 : ¬ (l.length : Int) < l.length := by omega
   rw [List.take_length] at hall
   simp only [go_sem,e1]
   rw [hall]
   exact ⟨sH,rfl⟩
theorem aDG {l : List dM} {v fv : AV} {p : dM → Bool} (hv : Sl w0 h 2 v (l.map dM.c)) (hn : l.length < 1000000000000) (hf : ∀ x ∈ l,∀ H,aD h H → dA Tryz.prog w0 fv [.agg x.c] H (.bool (p x)) H) : aQ Tryz.prog w0 149 [v,fv] h (.bool (l.all p)) h := by
 refine cK (by simp [AV.bdd]) (aR aI aCO aGh aGg (qE rfl) fun hb ha => aL ?_)
 obtain ⟨ln,q,ix,row,_⟩ := hv.use
 rw [List.length_map] at ln ix
 rw [List.append_nil]
 simp only [go_sem,mf149,ln]
 refine cG (S := aA) (fun j _ => [(1,fv),(7,v),(8,.int .i64 l.length),(9,.int .i64 j)]) (fun _ s => s) (fun j s => aD h s ∧ (l.take j).all p = true) l.length h ⟨aD.refl,rfl⟩ rfl rfl ?_ ?_
 · rintro j H hj ⟨sH,hall⟩ ih
   refine aH aI wL [1,7,8,9] L149_0.eq_1 ?_
   have e1 : (j : Int) < l.length := by omega
   obtain ⟨x,hx⟩ : ∃ x,x = l[j] := ⟨_,rfl⟩
   have hr : (l.map dM.c)[j]? = some x.c := by rw [List.getElem?_map,qA hj,hx]; rfl
   have r1 := sH.rdn (row j _ hr)
   have s1 : aD H (H ++ [some (Blk.row x.c)]) := aD.refl.app
   have cc := hf x (hx ▸ qG hj) _ (sH.trans s1)
   have b1 : (H ++ [some (Blk.row x.c)])[H.length]? = some (some (.row x.c)) := by simp
   simp only [dM.c] at cc b1 s1
   simp only [go_sem,e1,ix j hj,r1,b1]
   refine aC cc ?_
   have tk : (l.take (j + 1)).all p = ((l.take j).all p && p x) := by rw [List.take_succ_eq_append_getElem hj,List.all_append,hx]; simp
   cases e : p x with
   | false =>
    simp only [go_sem]
    have : l.all p = false := List.all_eq_false.2 ⟨x,hx ▸ qG hj,by rw [e]; simp⟩
    rw [this]
    exact ⟨sH.trans s1,rfl⟩
   | true =>
    simp only [go_sem]
    exact ⟨(by unfold I64; omega),ih _ ⟨sH.trans s1,by rw [tk,hall,e]; rfl⟩⟩
 · rintro H ⟨sH,hall⟩
   refine aH aI wL [1,7,8,9] L149_0.eq_1 ?_
   have e1 : ¬ (l.length : Int) < l.length := by omega
   rw [List.take_length] at hall
   simp only [go_sem,e1]
   rw [hall]
   exact ⟨sH,rfl⟩
theorem aDF {l : List dF} {v fv : AV} {p : dF → Bool} (hv : Sl w0 h 3 v (l.map dF.c)) (hn : l.length < 1000000000000) (hf : ∀ x ∈ l,∀ H,aD h H → dA Tryz.prog w0 fv [.agg x.c] H (.bool (p x)) H) : aQ Tryz.prog w0 174 [v,fv] h (.bool (l.all p)) h := by
 refine cK (by simp [AV.bdd]) (aR aI aCx aFI aFH (qE rfl) fun hb ha => aL ?_)
 obtain ⟨ln,q,ix,row,_⟩ := hv.use
 rw [List.length_map] at ln ix
 rw [List.append_nil]
 simp only [go_sem,mf174,ln]
 refine cG (S := aA) (fun j _ => [(1,fv),(7,v),(8,.int .i64 l.length),(9,.int .i64 j)]) (fun _ s => s) (fun j s => aD h s ∧ (l.take j).all p = true) l.length h ⟨aD.refl,rfl⟩ rfl rfl ?_ ?_
 · rintro j H hj ⟨sH,hall⟩ ih
   refine aH aI wD [1,7,8,9] L174_0.eq_1 ?_
   have e1 : (j : Int) < l.length := by omega
   obtain ⟨x,hx⟩ : ∃ x,x = l[j] := ⟨_,rfl⟩
   have hr : (l.map dF.c)[j]? = some x.c := by rw [List.getElem?_map,qA hj,hx]; rfl
   have r1 := sH.rdn (row j _ hr)
   have s1 : aD H (H ++ [some (Blk.row x.c)]) := aD.refl.app
   have cc := hf x (hx ▸ qG hj) _ (sH.trans s1)
   have b1 : (H ++ [some (Blk.row x.c)])[H.length]? = some (some (.row x.c)) := by simp
   simp only [dF.c] at cc b1 s1
   simp only [go_sem,e1,ix j hj,r1,b1]
   refine aC cc ?_
   have tk : (l.take (j + 1)).all p = ((l.take j).all p && p x) := by rw [List.take_succ_eq_append_getElem hj,List.all_append,hx]; simp
   cases e : p x with
   | false =>
    simp only [go_sem]
    have : l.all p = false := List.all_eq_false.2 ⟨x,hx ▸ qG hj,by rw [e]; simp⟩
    rw [this]
    exact ⟨sH.trans s1,rfl⟩
   | true =>
    simp only [go_sem]
    exact ⟨(by unfold I64; omega),ih _ ⟨sH.trans s1,by rw [tk,hall,e]; rfl⟩⟩
 · rintro H ⟨sH,hall⟩
   refine aH aI wD [1,7,8,9] L174_0.eq_1 ?_
   have e1 : ¬ (l.length : Int) < l.length := by omega
   rw [List.take_length] at hall
   simp only [go_sem,e1]
   rw [hall]
   exact ⟨sH,rfl⟩
theorem dV (x lo hi : Int) : aQ Tryz.prog w0 25 [.int .i64 x,.int .i64 lo,.int .i64 hi] h (.bool (inB x lo hi)) h := by
 refine aF aI aFc mf25_b mf25_g (qE rfl) (by simp [AV.bdd,AV.bdds]) fun hb ha => aL ?_
 by_cases a : x ≥ lo
 · simp only [go_sem,mf25,a]
   rw [inB,decide_eq_true (show lo ≤ x from a)]; rfl
 · simp only [go_sem,mf25,a]
   rw [inB,decide_eq_false (show ¬ lo ≤ x from a)]; rfl
theorem zQ (x lo hi : Int) : aQ Tryz.prog w0 30 [.int .i64 x,.int .i64 lo,.int .i64 hi] h (.bool (inB x lo hi)) h := by
 refine aF aI aE7 mf30_b mf30_g (qE rfl) (by simp [AV.bdd,AV.bdds]) fun hb ha => aL ?_
 by_cases a : x ≥ lo
 · simp only [go_sem,mf30,a]
   rw [inB,decide_eq_true (show lo ≤ x from a)]; rfl
 · simp only [go_sem,mf30,a]
   rw [inB,decide_eq_false (show ¬ lo ≤ x from a)]; rfl
theorem nT (x lo hi : Int) : aQ Tryz.prog w0 151 [.int .i64 x,.int .i64 lo,.int .i64 hi] h (.bool (inB x lo hi)) h := by
 refine aF aI aCM aGc aGb (qE rfl) (by simp [AV.bdd,AV.bdds]) fun hb ha => aL ?_
 by_cases a : x ≥ lo
 · simp only [go_sem,mf151,a]
   rw [inB,decide_eq_true (show lo ≤ x from a)]; rfl
 · simp only [go_sem,mf151,a]
   rw [inB,decide_eq_false (show ¬ lo ≤ x from a)]; rfl
theorem vO (x lo hi : Int) : aQ Tryz.prog w0 44 [.int .i64 x,.int .i64 lo,.int .i64 hi] h (.bool (inB x lo hi)) h := by
 refine aF aI aET mf44_b mf44_g (qE rfl) (by simp [AV.bdd,AV.bdds]) fun hb ha => aL ?_
 by_cases a : x ≥ lo
 · simp only [go_sem,mf44,a]
   rw [inB,decide_eq_true (show lo ≤ x from a)]; rfl
 · simp only [go_sem,mf44,a]
   rw [inB,decide_eq_false (show ¬ lo ≤ x from a)]; rfl
def spB (a b lo hi : Int) : Bool := inB a lo b && decide (b ≤ hi)
theorem oP (a b lo hi : Int) : aQ Tryz.prog w0 148 [.agg [.int .i64 a,.int .i64 b],.int .i64 lo,.int .i64 hi] h (.bool (spB a b lo hi)) h := by
 refine aF aI aCP aGj aGi (qE rfl) (by simp [AV.bdd,AV.bdds]) fun hb ha => aL ?_
 by_cases q1 : a ≥ lo
 · by_cases q2 : a ≤ b
   · simp only [go_sem,mf148,q1,q2]
     rw [spB,inB,decide_eq_true (show lo ≤ a from q1),decide_eq_true q2]; rfl
   · simp only [go_sem,mf148,q1,q2]
     rw [spB,inB,decide_eq_true (show lo ≤ a from q1),decide_eq_false q2]; rfl
 · simp only [go_sem,mf148,q1]
   rw [spB,inB,decide_eq_false (show ¬ lo ≤ a from q1)]; rfl
theorem nB (a b lo hi : Int) : aQ Tryz.prog w0 29 [.agg [.int .i64 a,.int .i64 b],.int .i64 lo,.int .i64 hi] h (.bool (spB a b lo hi)) h := by
 refine aF aI aE8 mf29_b mf29_g (qE rfl) (by simp [AV.bdd,AV.bdds]) fun hb ha => aL ?_
 simp only [go_sem,mf29]
 refine aC (dV a lo b).v ?_
 cases q : inB a lo b
 · simp only [go_sem]
   rw [spB,q]; rfl
 · simp only [go_sem]
   rw [spB,q]; rfl
def fX (s : fG) : Bool := inB s.arm (-1000) 1000 && inB s.most 0 20000
theorem xU (s : fG) : aQ Tryz.prog w0 153 [.agg s.c] h (.bool (fX s)) h := by
 rw [fG.c]
 refine aF aI aCK aF8 aF7 (qE rfl) (by simp [AV.bdd,AV.bdds]) fun hb ha => aL ?_
 simp only [go_sem,mf153]
 refine aC (nT s.arm (-1000) 1000).v ?_
 cases q : inB s.arm (-1000) 1000
 · simp only [go_sem]
   rw [fX,q]; rfl
 · simp only [go_sem]
   refine aC (nT s.most 0 20000).v ?_
   simp only [go_sem]
   rw [fX,q]; rfl
theorem pF (s : fG) : aQ Tryz.prog w0 26 [.agg s.c] h (.bool (fX s)) h := by
 rw [fG.c]
 refine aF aI aFb mf26_b mf26_g (qE rfl) (by simp [AV.bdd,AV.bdds]) fun hb ha => aL ?_
 simp only [go_sem,mf26]
 refine aC (dV s.arm (-1000) 1000).v ?_
 cases q : inB s.arm (-1000) 1000
 · simp only [go_sem]
   rw [fX,q]; rfl
 · simp only [go_sem]
   refine aC (dV s.most 0 20000).v ?_
   simp only [go_sem]
   rw [fX,q]; rfl
theorem aAY (n : Int) : aQ Tryz.prog w0 177 [.int .i64 n] h (.bool (inB n 0 20000)) h := by
 refine aF aI aCu aFC aFB (qE rfl) (by simp [AV.bdd,AV.bdds]) fun hb ha => aL ?_
 simp only [go_sem,mf177]
 refine aC (nT n 0 20000).v ?_
 simp only [go_sem]
theorem lall_c {v : AV} {l : List Int} (hv : SlI w0 h v l) (hn : l.length < 1000000000000) : aQ Tryz.prog w0 176 [v,.fn (.func 177) [] []] h (.bool (l.all fun n => inB n 0 20000)) h := by
 refine aF aI aCv aFE aFD (qE rfl) (by simp [AV.bdd,AV.bdds]) fun hb ha => aL ?_
 have ln := (SlI.use hv).1
 simp only [go_sem,mf176,ln]
 refine dR (fun j => [(1,.fn (.func 177) [] []),(7,v),(8,.int .i64 l.length),(9,.int .i64 j)]) (fun j => inB (l.getD j 0) 0 20000 = true) l.length rfl (fun j hj hall ih => ?_) (fun hall => ?_)
 · refine aH aI wC [1,7,8,9] L176_0.eq_1 ?_
   obtain ⟨p,i1,r1,r1'⟩ := hv.at_ hj
   have e1 : (j : Int) < l.length := by omega
   rw [aO hj] at ih
   simp only [go_sem,e1,i1,r1,r1']
   refine aC (aAY l[j]).v ?_
   cases q : inB l[j] 0 20000
   · simp only [go_sem]
     rw [List.all_eq_false.2 ⟨l[j],qG hj,by rw [q]; simp⟩]
   · simp only [go_sem]
     exact ⟨(by unfold I64; omega),ih q⟩
 · refine aH aI wC [1,7,8,9] L176_0.eq_1 ?_
   have e1 : ¬ (l.length : Int) < l.length := by omega
   simp only [go_sem,e1]
   rw [List.all_eq_true.2 fun n hn => by
    obtain ⟨i,hi,rfl⟩ := List.getElem_of_mem hn
    have := hall i hi
    rwa [aO hi] at this]
theorem pN {v : AV} {l : List Int} (hv : SlI w0 h v l) (hn : l.length < 1000000000000) : aQ Tryz.prog w0 147 [v] h (.bool (l.all fun n => inB n 0 20000)) h := by
 refine aF aI aCQ aGl aGk (qE rfl) (by simp [AV.bdd,AV.bdds]) fun hb ha => aL ?_
 simp only [go_sem,mf147]
 refine aC (lall_c hv.app hn).v ?_
 simp only [go_sem]
def oE (n : Int) (x : dF) : Bool := inB x.st 0 (n - 1) && spB x.lo x.hi 0 20000
def iE (n : Int) (l : List dF) : Bool := decide (l.length ≤ 12) && l.all (oE n)
theorem xM {v : AV} {l : List dF} {n : Int} (hv : Sl w0 h 3 v (l.map dF.c)) (hn : 0 ≤ n ∧ n ≤ 1000000) (hl : l.length ≤ 9223372036854775807) : aQ Tryz.prog w0 28 [v,.int .i64 n] h (.bool (iE n l)) h := by
 refine aF aI aE9 mf28_b mf28_g (qE rfl) (by simp [AV.bdd,AV.bdds]) fun hb ha => aL ?_
 obtain ⟨ln,q,ix,row,_⟩ := hv.use
 rw [List.length_map] at ln ix
 simp only [go_sem,mf28]
 refine dR (fun j => [(0,v),(1,.int .i64 n),(5,.int .i64 j)]) (fun j => oE n (l.getD j ⟨0,0,0⟩) = true) l.length rfl (fun j hj hall ih => ?_) (fun hall => ?_)
 · refine aH aI aAy [0,1,5] L28_0.eq_1 ?_
   have e1 : (j : Int) < l.length := by omega
   have i1 := ix j hj
   rw [aO hj] at ih
   obtain ⟨x,hx⟩ : ∃ x,x = l[j] := ⟨_,rfl⟩
   rw [← hx] at ih
   have hr : (l.map dF.c)[j]? = some x.c := by rw [List.getElem?_map,qA hj,hx]; rfl
   have r0 := row j _ hr
   have g0 : ∀ L,rd w0 (h ++ L) ((q.add (j * 3)).add 0) = some (.int .i64 x.st) := fun L => iU (cV r0 (o := 0) rfl)
   have g1 : ∀ L,rdn w0 (h ++ L) ((q.add (j * 3)).add 1) 2 = some [.int .i64 x.lo,.int .i64 x.hi] := fun L => dU ((mJ r0).2 1 2 (by omega))
   have z := bO (n := n - 1) (by unfold I64; omega)
   have no : oE n x = false → iE n l = false := fun e => by rw [iE,List.all_eq_false.2 ⟨x,hx ▸ qG hj,by rw [e]; simp⟩,Bool.and_false]
   simp only [go_sem,ln,e1,i1,g0,z]
   refine aC (dV x.st 0 (n - 1)).v ?_
   cases c1 : inB x.st 0 (n - 1)
   · simp only [go_sem]
     rw [no (by rw [oE,c1]; rfl)]
   · simp only [go_sem,i1,g1]
     refine aC (nB x.lo x.hi 0 20000).v ?_
     cases c2 : spB x.lo x.hi 0 20000
     · simp only [go_sem]
       rw [no (by rw [oE,c1,c2]; rfl)]
     · simp only [go_sem]
       exact ⟨(by unfold I64; omega),ih (by rw [oE,c1,c2]; rfl)⟩
 · refine aH aI aAy [0,1,5] L28_0.eq_1 ?_
   have e1 : ¬ (l.length : Int) < l.length := by omega
   have ha : l.all (oE n) = true := List.all_eq_true.2 fun x hx => by
    obtain ⟨i,hi,rfl⟩ := List.getElem_of_mem hx
    have := hall i hi
    rwa [aO hi] at this
   simp only [go_sem,ln,e1]
   rw [iE,ha,Bool.and_true]
   congr 1
   exact decide_eq_decide.2 (by omega)
def dH (n : Int) (x : bU) : Bool := iE n x.items && (inB x.fuel 0 20000 && (spB x.blo x.bhi 0 20000 && spB x.llo x.lhi 0 20000))
theorem eU.one {v : AV} {l : List bU} (s : eU w0 h v l) {j : Nat} (hj : j < l.length) : ∃ (p : Pl) (iv : AV),cS 7 v (some j) = some (.ptr p) ∧ SlZ w0 h 3 iv (l[j].items.map dF.c) ∧ (∀ L,rdn w0 (h ++ L) p 7 = some (l[j].c iv)) ∧ (∀ L,rd w0 (h ++ L) (p.add 0) = some iv) ∧ (∀ L,rd w0 (h ++ L) (p.add 2) = some (.int .i64 l[j].fuel)) ∧
 (∀ L,rdn w0 (h ++ L) (p.add 3) 2 = some [.int .i64 l[j].blo,.int .i64 l[j].bhi]) ∧ (∀ L,rdn w0 (h ++ L) (p.add 5) 2 = some [.int .i64 l[j].llo,.int .i64 l[j].lhi]) := by
 obtain ⟨p,iv,h1,h2,_,h4⟩ := s.at_ hj
 exact ⟨p,iv,h1,h4,h2,fun L => cV (h2 L) rfl,fun L => cV (h2 L) rfl,fun L => (mJ (h2 L)).2 3 2 (by omega),fun L => (mJ (h2 L)).2 5 2 (by omega)⟩
def rH (n : Int) (l : List bU) : Bool := l.all (dH n) && decide (1 ≤ l.length)
theorem aAU {v : AV} {l : List bU} {n : Int} (hv : eU w0 h v l) (hn : 0 ≤ n ∧ n ≤ 1000000) (hl : l.length ≤ 9223372036854775807) (hi : ∀ x ∈ l,x.items.length ≤ 9223372036854775807) : aQ Tryz.prog w0 7 [v,.int .i64 n] h (.bool (rH n l)) h := by
 refine aF aI mf7_ok mf7_b mf7_g (qE rfl) (by simp [AV.bdd,AV.bdds]) fun hb ha => aL ?_
 have ln := hv.len
 simp only [go_sem,mf7]
 refine dR (fun j => [(0,v),(1,.int .i64 n),(5,.int .i64 j)]) (fun j => dH n (l.getD j ⟨[],false,0,0,0,0,0⟩) = true) l.length rfl (fun j hj hall ih => ?_) (fun hall => ?_)
 · refine aH aI aDN [0,1,5] L7_0.eq_1 ?_
   have e1 : (j : Int) < l.length := by omega
   obtain ⟨p,iv,i1,vi,r7,r0,r2,r3,r5⟩ := hv.one hj
   rw [aO hj] at ih
   obtain ⟨x,hx⟩ : ∃ x,x = l[j] := ⟨_,rfl⟩
   rw [← hx] at ih vi r7 r2 r3 r5
   have no : dH n x = false → rH n l = false := fun e => by rw [rH,List.all_eq_false.2 ⟨x,hx ▸ qG hj,by rw [e]; simp⟩,Bool.false_and]
   simp only [go_sem,ln,e1,i1,r0]
   refine aC (xM (vi.s.sub aD.refl.app) hn (hi x (hx ▸ qG hj))).v ?_
   cases c1 : iE n x.items
   · simp only [go_sem]
     rw [no (by rw [dH,c1]; rfl)]
   · simp only [go_sem,i1,r2]
     refine aC (dV x.fuel 0 20000).v ?_
     cases c2 : inB x.fuel 0 20000
     · simp only [go_sem]
       rw [no (by rw [dH,c1,c2]; rfl)]
     · simp only [go_sem,i1,r3]
       refine aC (nB x.blo x.bhi 0 20000).v ?_
       cases c3 : spB x.blo x.bhi 0 20000
       · simp only [go_sem]
         rw [no (by rw [dH,c1,c2,c3]; rfl)]
       · simp only [go_sem,i1,r5]
         refine aC (nB x.llo x.lhi 0 20000).v ?_
         cases c4 : spB x.llo x.lhi 0 20000
         · simp only [go_sem]
           rw [no (by rw [dH,c1,c2,c3,c4]; rfl)]
         · simp only [go_sem]
           exact ⟨(by unfold I64; omega),ih (by rw [dH,c1,c2,c3,c4]; rfl)⟩
 · refine aH aI aDN [0,1,5] L7_0.eq_1 ?_
   have e1 : ¬ (l.length : Int) < l.length := by omega
   have ha : l.all (dH n) = true := List.all_eq_true.2 fun x hx => by
    obtain ⟨i,hi,rfl⟩ := List.getElem_of_mem hx
    have := hall i hi
    rwa [aO hi] at this
   simp only [go_sem,ln,e1]
   rw [rH,ha,Bool.true_and]
   congr 1
   exact decide_eq_decide.2 (by omega)
theorem uS (d : Int) : aQ Tryz.prog w0 9 [.int .i64 d] h (.bool (inB d 0 400)) h := by
 refine aF aI mf9_ok mf9_b mf9_g (qE rfl) (by simp [AV.bdd,AV.bdds]) fun hb ha => aL ?_
 simp only [go_sem,mf9]
 refine aC (zQ d 0 400).v ?_
 simp only [go_sem]
structure aX where
 kilos : Int
 til : Int
@[go_sem] def aX.c (b : aX) : List AV := [.int .i64 b.kilos,.int .i64 b.til]
def mW (b : aX) : Bool := inB b.kilos 1 1000 && inB b.til 0 400
def dL (l : List aX) : Bool := l.all mW && decide (l.length ≤ 30)
theorem xJ {v : AV} {l : List aX} (hv : Sl w0 h 2 v (l.map aX.c)) (hl : l.length ≤ 9223372036854775807) : aQ Tryz.prog w0 8 [.agg [v]] h (.bool (dL l)) h := by
 refine aF aI mf8_ok mf8_b mf8_g (qE rfl) (by simp [AV.bdd,AV.bdds]) fun hb ha => aL ?_
 obtain ⟨ln,q,ix,row,_⟩ := hv.use
 rw [List.length_map] at ln ix
 have o1 := hv.one
 simp only [go_sem,mf8,o1.1,o1.2]
 have bx : ∀ L,(h ++ some (Blk.row [v]) :: L : aA)[h.length]? = some (some (.row [v])) := fun L => by rw [qI (Nat.le_refl _),Nat.sub_self]; rfl
 refine dR (fun j => [(1,.ptr (.own h.length 0)),(3,.int .i64 j)]) (fun j => mW (l.getD j ⟨0,0⟩) = true) l.length rfl (fun j hj hall ih => ?_) (fun hall => ?_)
 · refine aH aI aDM [1,3] L8_0.eq_1 ?_
   have e1 : (j : Int) < l.length := by omega
   have i1 := ix j hj
   rw [aO hj] at ih
   obtain ⟨x,hx⟩ : ∃ x,x = l[j] := ⟨_,rfl⟩
   rw [← hx] at ih
   have hr : (l.map aX.c)[j]? = some x.c := by rw [List.getElem?_map,qA hj,hx]; rfl
   have r0 := row j _ hr
   have g0 : ∀ L,rd w0 (h ++ L) ((q.add (j * 2)).add 0) = some (.int .i64 x.kilos) := fun L => iU (cV r0 (o := 0) rfl)
   have g1 : ∀ L,rd w0 (h ++ L) ((q.add (j * 2)).add 1) = some (.int .i64 x.til) := fun L => iU (cV r0 (o := 1) rfl)
   have no : mW x = false → dL l = false := fun e => by rw [dL,List.all_eq_false.2 ⟨x,hx ▸ qG hj,by rw [e]; simp⟩,Bool.false_and]
   simp only [go_sem,bx,ln,e1,i1,g0]
   refine aC (zQ x.kilos 1 1000).v ?_
   cases c1 : inB x.kilos 1 1000
   · simp only [go_sem]
     rw [no (by rw [mW,c1]; rfl)]
   · simp only [go_sem,bx,i1,g1]
     refine aC (uS x.til).v ?_
     cases c2 : inB x.til 0 400
     · simp only [go_sem]
       rw [no (by rw [mW,c1,c2]; rfl)]
     · simp only [go_sem]
       exact ⟨(by unfold I64; omega),ih (by rw [mW,c1,c2]; rfl)⟩
 · refine aH aI aDM [1,3] L8_0.eq_1 ?_
   have e1 : ¬ (l.length : Int) < l.length := by omega
   have ha : l.all mW = true := List.all_eq_true.2 fun x hx => by
    obtain ⟨i,hi,rfl⟩ := List.getElem_of_mem hx
    have := hall i hi
    rwa [aO hi] at this
   simp only [go_sem,bx,ln,e1]
   rw [dL,ha,Bool.true_and]
   congr 1
   exact decide_eq_decide.2 (by omega)
def aT (l : List dM) (k : Nat) : dM := l.getD (k % l.length) ⟨0,0⟩
theorem lV (a b : Nat) : (a : Int).tmod (b : Int) = ((a % b : Nat) : Int) := by
 rw [Int.tmod_eq_emod_of_nonneg (Int.natCast_nonneg _)]; rfl
theorem nR {p : aS} {cv sv fv : AV} {k : Nat} (hp : dX w0 h p cv sv fv) (hn : 0 < p.cor.length ∧ p.cor.length ≤ 1000) (hk : k ≤ 1000) : aQ Tryz.prog w0 75 [.agg (p.c cv sv fv),.int .i64 k] h (.agg (aT p.cor k).c) h := by
 rw [aS.c]
 simp only [dM.c]
 refine aF aI aEL mf75_b mf75_g (qE rfl) (by simp [AV.bdd,AV.bdds]) fun hb ha => aL ?_
 obtain ⟨ln,q,ix,row,_⟩ := hp.c.use
 rw [List.length_map] at ln ix
 have o1 := hp.c.one
 have o2 := hp.s.one
 have o3 := hp.f.one
 simp only [go_sem,mf75,o1.1,o1.2,o2.1,o2.2,o3.1,o3.2]
 have i1 := ix (k % p.cor.length) (Nat.mod_lt _ hn.1)
 have hr : (p.cor.map dM.c)[k % p.cor.length]? = some (aT p.cor k).c := by rw [List.getElem?_map,qA (Nat.mod_lt _ hn.1),aT,aO (Nat.mod_lt _ hn.1)]; rfl
 have r0 := row _ _ hr
 have r1 : ∀ L,rdn w0 (h ++ L) (q.add (k % p.cor.length * 2)) 2 = some (aT p.cor k).c := fun L => dU r0
 have n0 : ¬ (p.cor.length : Int) = 0 := by omega
 have em := lV k p.cor.length
 simp only [go_sem,ln,n0,em,r1,i1]
def eS (l : List dM) (e : Nat) (w m : Int) : Int := ((aT l (e + 1)).w - (aT l e).w) * (m - (aT l e).m) - ((aT l (e + 1)).m - (aT l e).m) * (w - (aT l e).w)
def mR (c : dM) : Bool := inB c.w 0 20000 && inB c.m (-20000000) 20000000
theorem gW {x y m n : Int} (h0 : -m ≤ x) (h1 : x ≤ m) (g0 : -n ≤ y) (g1 : y ≤ n) : -(m * n) ≤ x * y ∧ x * y ≤ m * n := by
 have e1 : 0 ≤ (m - x) * (n - y) := Int.mul_nonneg (by omega) (by omega)
 have e2 : 0 ≤ (m + x) * (n + y) := Int.mul_nonneg (by omega) (by omega)
 have e3 : 0 ≤ (m - x) * (n + y) := Int.mul_nonneg (by omega) (by omega)
 have e4 : 0 ≤ (m + x) * (n - y) := Int.mul_nonneg (by omega) (by omega)
 simp only [Int.sub_mul,Int.mul_sub,Int.add_mul,Int.mul_add] at e1 e2 e3 e4
 omega
def jW (l : List dM) : Prop := ∀ c ∈ l,mR c = true
theorem iI {l : List dM} (hb : jW l) (k : Nat) : (0 ≤ (aT l k).w ∧ (aT l k).w ≤ 20000) ∧ -20000000 ≤ (aT l k).m ∧ (aT l k).m ≤ 20000000 := by
 by_cases hl : k % l.length < l.length
 · have := hb _ (qG hl)
   rw [aT,aO hl]
   simp only [mR,inB,Bool.and_eq_true,decide_eq_true_eq] at this
   omega
 · rw [aT,List.getD_eq_getElem?_getD,List.getElem?_eq_none (by omega)]
   simp
def WM (w m : Int) : Prop := (-800000 ≤ w ∧ w ≤ 800000) ∧ -800000000 ≤ m ∧ m ≤ 800000000
theorem sQ {l : List dM} (hb : jW l) {e : Nat} {w m : Int} (hw : WM w m) : (-(20000 * 820000000) ≤ ((aT l (e + 1)).w - (aT l e).w) * (m - (aT l e).m) ∧ ((aT l (e + 1)).w - (aT l e).w) * (m - (aT l e).m) ≤ 20000 * 820000000) ∧
 (-(40000000 * 820000) ≤ ((aT l (e + 1)).m - (aT l e).m) * (w - (aT l e).w) ∧ ((aT l (e + 1)).m - (aT l e).m) * (w - (aT l e).w) ≤ 40000000 * 820000) := by
 have h1 := iI hb e
 have h2 := iI hb (e + 1)
 obtain ⟨h3,h4⟩ := hw
 exact ⟨gW (by omega) (by omega) (by omega) (by omega),gW (by omega) (by omega) (by omega) (by omega)⟩
theorem aAT {p : aS} {cv sv fv : AV} {e : Nat} {w m : Int} (hp : dX w0 h p cv sv fv) (hn : 0 < p.cor.length ∧ p.cor.length ≤ 1000) (hk : e < 1000) (hb : jW p.cor) (hw : WM w m) : aQ Tryz.prog w0 27 [.agg (p.c cv sv fv),.int .i64 e,.int .i64 w,.int .i64 m] h (.int .i64 (eS p.cor e w m)) h := by
 rw [aS.c]
 have h1 := iI hb e
 have h2 := iI hb (e + 1)
 obtain ⟨s1,s2⟩ := sQ hb (e := e) hw
 have hw1 := hw.1
 have hw2 := hw.2
 have b1 : I64 (((aT p.cor (e + 1)).w - (aT p.cor e).w) * (m - (aT p.cor e).m)) := by unfold I64; omega
 have b2 : I64 (((aT p.cor (e + 1)).m - (aT p.cor e).m) * (w - (aT p.cor e).w)) := by unfold I64; omega
 have b3 : I64 (eS p.cor e w m) := by unfold I64 eS; omega
 refine aF aI aFa mf27_b mf27_g (qE rfl) (by simp [AV.bdd,AV.bdds]) fun hb ha => aL ?_
 have o1 := hp.c.one
 have o2 := hp.s.one
 have o3 := hp.f.one
 simp only [go_sem,mf27,o1.1,o1.2,o2.1,o2.2,o3.1,o3.2]
 refine rU aI [0,1,3,4,5,2,6,7,8,9,10] [o_ 11 (.load (.t 4) (some 10)),o_ 12 (m_ 1),o_ 14 (.load (.t 4) (some 10)),o_ 15 (m_ 1),o_ 16 (.bin .add (.t 15) (i_ 1)),.call (some 13) none (f_ 75) [(.t 11),(.t 12)]] [([(2,o_ 14 (.load (.t 4) (some 10)))],[.call (some 17) none (f_ 75) [(.t 14),(.t 16)],o_ 9 (.alloc [(.int .i64 0),(.int .i64 0)]),o_ 10 (.alloc [(.int .i64 0),(.int .i64 0)]),.op none none (.store (.t 9) (.t 13) 2),.op none none (.store (.t 10) (.t 17) 2)])] rfl rfl (by kernel_rfl) ?_
 simp only [go_sem]
 refine ⟨(by unfold I64; omega),?_⟩
 refine aC (nR (k := e) (hp.sub aD.refl.app) hn (by omega)).v ?_
 simp only [go_sem]
 refine aC (nR (k := e + 1) (hp.sub aD.refl.app) hn (by omega)).v ?_
 have z1 := bO (n := (aT p.cor (e + 1)).w - (aT p.cor e).w) (by unfold I64; omega)
 have z2 := bO (n := (aT p.cor (e + 1)).m - (aT p.cor e).m) (by unfold I64; omega)
 have z3 := bO (n := m - (aT p.cor e).m) (by unfold I64; omega)
 have z4 := bO (n := w - (aT p.cor e).w) (by unfold I64; omega)
 have z5 := bO (n := ((aT p.cor (e + 1)).w - (aT p.cor e).w) * (m - (aT p.cor e).m)) b1
 have z6 := bO (n := ((aT p.cor (e + 1)).m - (aT p.cor e).m) * (w - (aT p.cor e).w)) b2
 have z7 := bO (n := eS p.cor e w m) b3
 rw [eS] at z7
 simp only [go_sem,z1,z2,z3,z4,z5,z6,z7]
 exact ⟨b1,b2,rfl⟩
def hX (p : aS) : Bool := inB p.empty 1 20000 && (inB p.moment (-20000000) 20000000 && (inB p.takeoff 0 20000 && (inB p.landing 0 20000 && (inB p.reserve 0 20000 && (inB p.cor.length 3 12 && (decide (p.sta.length ≤ 8) && (fX p.tank && decide (p.flo.length ≤ 2))))))))
def nY (l : List dM) (e k : Nat) : Bool := !(decide (k ≠ e) && (decide (k ≠ (e + 1) % l.length) && decide (eS l e (l.getD k ⟨0,0⟩).w (l.getD k ⟨0,0⟩).m ≤ 0)))
def rW (l : List dM) : Bool := (List.range l.length).all fun e => (List.range l.length).all fun k => nY l e k
def cP (p : aS) : Bool := hX p && (p.sta.all fX && (p.flo.all fX && (p.cor.all mR && rW p.cor)))
theorem hJ {α : Type} {q : Pl} {es : Nat} {l : List α} {f : α → List AV} (row : ∀ (j : Nat) c,(l.map f)[j]? = some c → rdn w0 h (q.add (j * es)) es = some c) {j : Nat} (hj : j < l.length) : ∀ L,rdn w0 (h ++ L) (q.add (j * es)) es = some (f l[j]) := fun L =>
 dU (row j _ (by rw [List.getElem?_map,qA hj]; rfl))
set_option maxRecDepth 20000 in
theorem xK {p : aS} {cv sv fv : AV} (hp : dX w0 h p cv sv fv) (hc : p.cor.length ≤ 1000000) (hs : p.sta.length ≤ 1000000) (hf : p.flo.length ≤ 1000000) : aQ Tryz.prog w0 6 [.agg (p.c cv sv fv)] h (.bool (cP p)) h := by
 rw [aS.c]
 refine aF aI mf6_ok mf6_b mf6_g (qE rfl) (by simp [AV.bdd,AV.bdds]) fun hb ha => aL ?_
 have o1 := hp.c.one
 have o2 := hp.s.one
 have o3 := hp.f.one
 obtain ⟨lc,qc,ixc,rowc,_⟩ := hp.c.use
 obtain ⟨ls,qs,ixs,rows,_⟩ := hp.s.use
 obtain ⟨lf,qf,ixf,rowf,_⟩ := hp.f.use
 rw [List.length_map] at lc ixc ls ixs lf ixf
 have no : hX p = false → cP p = false := fun e => by rw [cP,e]; rfl
 have bx : ∀ L,(h ++ some (Blk.row (p.c cv sv fv)) :: L : aA)[h.length]? = some (some (.row (p.c cv sv fv))) := fun L => by rw [qI (Nat.le_refl _),Nat.sub_self]; rfl
 simp only [aS.c] at bx
 simp only [go_sem,mf6,o1.1,o1.2,o2.1,o2.2,o3.1,o3.2]
 refine aC (dV p.empty 1 20000).v ?_
 cases c1 : inB p.empty 1 20000
 · simp only [go_sem]
   rw [no (by rw [hX,c1]; rfl)]
 simp only [go_sem,bx]
 refine aC (dV p.moment (-20000000) 20000000).v ?_
 cases c2 : inB p.moment (-20000000) 20000000
 · simp only [go_sem]
   rw [no (by rw [hX,c1,c2]; rfl)]
 simp only [go_sem,bx]
 refine aC (dV p.takeoff 0 20000).v ?_
 cases c3 : inB p.takeoff 0 20000
 · simp only [go_sem]
   rw [no (by rw [hX,c1,c2,c3]; rfl)]
 simp only [go_sem,bx]
 refine aC (dV p.landing 0 20000).v ?_
 cases c4 : inB p.landing 0 20000
 · simp only [go_sem]
   rw [no (by rw [hX,c1,c2,c3,c4]; rfl)]
 simp only [go_sem,bx]
 refine aC (dV p.reserve 0 20000).v ?_
 cases c5 : inB p.reserve 0 20000
 · simp only [go_sem]
   rw [no (by rw [hX,c1,c2,c3,c4,c5]; rfl)]
 simp only [go_sem,bx,lc]
 refine aC (dV p.cor.length 3 12).v ?_
 cases c6 : inB (p.cor.length : Int) 3 12
 · simp only [go_sem]
   rw [no (by rw [hX,c1,c2,c3,c4,c5,c6]; rfl)]
 by_cases c7 : p.sta.length ≤ 8
 rotate_left
 · have c7' : (p.sta.length : Int) > 8 := by omega
   simp only [go_sem,bx,ls,c7']
   rw [no (by rw [hX,c1,c2,c3,c4,c5,c6,decide_eq_false c7]; rfl)]
 have c7' : ¬ (p.sta.length : Int) > 8 := by omega
 simp only [go_sem,bx,ls,c7']
 refine aC (pF p.tank).v ?_
 cases c8 : fX p.tank
 · simp only [go_sem]
   rw [no (by rw [hX,c1,c2,c3,c4,c5,c6,decide_eq_true c7,c8]; rfl)]
 by_cases c9 : p.flo.length ≤ 2
 rotate_left
 · have c9' : (p.flo.length : Int) > 2 := by omega
   simp only [go_sem,bx,lf,c9']
   rw [no (by rw [hX,c1,c2,c3,c4,c5,c6,decide_eq_true c7,c8,decide_eq_false c9]; rfl)]
 have c9' : ¬ (p.flo.length : Int) > 2 := by omega
 have hd : hX p = true := by rw [hX,c1,c2,c3,c4,c5,c6,decide_eq_true c7,c8,decide_eq_true c9]; rfl
 simp only [go_sem,bx,lf,c9']
 refine dR (fun j => [(1,.ptr (.own h.length 0)),(3,.int .i64 j)]) (fun j => fX (p.sta.getD j ⟨0,0⟩) = true) p.sta.length rfl (fun j hj hall ih => ?_) (fun hall => ?_)
 · refine aH aI aDS [1,3] L6_0.eq_1 ?_
   have e1 : (j : Int) < p.sta.length := by omega
   rw [aO hj] at ih
   have r0 := hJ rows hj
   simp only [go_sem,bx,ls,e1,ixs j hj,r0]
   refine aC (pF p.sta[j]).v ?_
   cases q : fX p.sta[j]
   · simp only [go_sem]
     rw [cP,List.all_eq_false.2 ⟨_,qG hj,by rw [q]; simp⟩]; simp
   · simp only [go_sem]
     exact ⟨(by unfold I64; omega),ih q⟩
 refine aH aI aDS [1,3] L6_0.eq_1 ?_
 have e1 : ¬ (p.sta.length : Int) < p.sta.length := by omega
 have ha1 : p.sta.all fX = true := List.all_eq_true.2 fun x hx => by
  obtain ⟨i,hi,rfl⟩ := List.getElem_of_mem hx
  have := hall i hi
  rwa [aO hi] at this
 clear hall
 simp only [go_sem,bx,ls,e1]
 refine dR (fun j => [(1,.ptr (.own h.length 0)),(4,.int .i64 j)]) (fun j => fX (p.flo.getD j ⟨0,0⟩) = true) p.flo.length rfl (fun j hj hall ih => ?_) (fun hall => ?_)
 · refine aH aI aDR [1,4] L6_1.eq_1 ?_
   have e1 : (j : Int) < p.flo.length := by omega
   rw [aO hj] at ih
   have r0 := hJ rowf hj
   simp only [go_sem,bx,lf,e1,ixf j hj,r0]
   refine aC (pF p.flo[j]).v ?_
   cases q : fX p.flo[j]
   · simp only [go_sem]
     rw [cP,List.all_eq_false (l := p.flo) |>.2 ⟨_,qG hj,by rw [q]; simp⟩]; simp
   · simp only [go_sem]
     exact ⟨(by unfold I64; omega),ih q⟩
 refine aH aI aDR [1,4] L6_1.eq_1 ?_
 have e1 : ¬ (p.flo.length : Int) < p.flo.length := by omega
 have ha2 : p.flo.all fX = true := List.all_eq_true.2 fun x hx => by
  obtain ⟨i,hi,rfl⟩ := List.getElem_of_mem hx
  have := hall i hi
  rwa [aO hi] at this
 clear hall
 simp only [go_sem,bx,lf,e1]
 refine dR (fun j => [(1,.ptr (.own h.length 0)),(5,.int .i64 j)]) (fun j => mR (p.cor.getD j ⟨0,0⟩) = true) p.cor.length rfl (fun j hj hall ih => ?_) (fun hall => ?_)
 · refine aH aI aDQ [1,5] L6_2.eq_1 ?_
   have e1 : (j : Int) < p.cor.length := by omega
   rw [aO hj] at ih
   have r0 := hJ rowc hj
   have g0 : ∀ L,rd w0 (h ++ L) ((qc.add (j * 2)).add 0) = some (.int .i64 p.cor[j].w) := fun L => cV (r0 L) (o := 0) rfl
   have g1 : ∀ L,rd w0 (h ++ L) ((qc.add (j * 2)).add 1) = some (.int .i64 p.cor[j].m) := fun L => cV (r0 L) (o := 1) rfl
   have nc : mR p.cor[j] = false → cP p = false := fun e => by
    rw [cP,List.all_eq_false (l := p.cor) |>.2 ⟨_,qG hj,by rw [e]; simp⟩]; simp
   simp only [go_sem,bx,lc,e1,ixc j hj,g0]
   refine aC (dV p.cor[j].w 0 20000).v ?_
   cases q : inB p.cor[j].w 0 20000
   · simp only [go_sem]
     rw [nc (by rw [mR,q]; rfl)]
   · simp only [go_sem,bx,ixc j hj,g1]
     refine aC (dV p.cor[j].m (-20000000) 20000000).v ?_
     cases q2 : inB p.cor[j].m (-20000000) 20000000
     · simp only [go_sem]
       rw [nc (by rw [mR,q,q2]; rfl)]
     · simp only [go_sem]
       exact ⟨(by unfold I64; omega),ih (by rw [mR,q,q2]; rfl)⟩
 refine aH aI aDQ [1,5] L6_2.eq_1 ?_
 have e1 : ¬ (p.cor.length : Int) < p.cor.length := by omega
 have ha3 : p.cor.all mR = true := List.all_eq_true.2 fun x hx => by
  obtain ⟨i,hi,rfl⟩ := List.getElem_of_mem hx
  have := hall i hi
  rwa [aO hi] at this
 clear hall
 have hcb : jW p.cor := fun c hc => List.all_eq_true.1 ha3 c hc
 have c6' : 3 ≤ p.cor.length ∧ p.cor.length ≤ 12 := by
  simp only [inB,Bool.and_eq_true,decide_eq_true_eq] at c6; omega
 have pe : cP p = rW p.cor := by rw [cP,hd,ha1,ha2,ha3]; rfl
 rw [pe]
 simp only [go_sem,bx,lc,e1]
 refine dR (fun e => [(1,.ptr (.own h.length 0)),(6,.int .i64 e)]) (fun e => ((List.range p.cor.length).all fun k => nY p.cor e k) = true) p.cor.length rfl (fun e he hall ih => ?_) (fun hall => ?_)
 · refine aH aI aDO [1,6] L6_4.eq_1 ?_
   have e2 : (e : Int) < p.cor.length := by omega
   simp only [go_sem,bx,lc,e2]
   refine dR (fun k => [(1,.ptr (.own h.length 0)),(6,.int .i64 e),(7,.int .i64 k)]) (fun k => nY p.cor e k = true) p.cor.length rfl (fun k hk hall2 ih2 => ?_) (fun hall2 => ?_)
   · refine aH aI aDP [1,6,7] L6_3.eq_1 ?_
     have e3 : (k : Int) < p.cor.length := by omega
     have r0 := hJ rowc hk
     have g0 : ∀ L,rd w0 (h ++ L) ((qc.add (k * 2)).add 0) = some (.int .i64 p.cor[k].w) := fun L => cV (r0 L) (o := 0) rfl
     have g1 : ∀ L,rd w0 (h ++ L) ((qc.add (k * 2)).add 1) = some (.int .i64 p.cor[k].m) := fun L => cV (r0 L) (o := 1) rfl
     have n0 : ¬ (p.cor.length : Int) = 0 := by omega
     have em : ((e : Int) + 1).tmod p.cor.length = (((e + 1) % p.cor.length : Nat) : Int) := lV (e + 1) p.cor.length
     have cb := hcb _ (qG hk)
     simp only [mR,inB,Bool.and_eq_true,decide_eq_true_eq] at cb
     by_cases q1 : k = e
     · have q1' : ((k : Int) != (e : Int)) = false := by rw [q1]; simp
       simp only [go_sem,bx,lc,e3,q1']
       exact ⟨(by unfold I64; omega),ih2 (by rw [nY,decide_eq_false (fun x => x q1)]; rfl)⟩
     have q1' : ((k : Int) != (e : Int)) = true := by simp; omega
     by_cases q2 : k = (e + 1) % p.cor.length
     · have q2' : ((k : Int) != (((e + 1) % p.cor.length : Nat) : Int)) = false := by rw [← q2]; simp
       simp only [go_sem,bx,lc,e3,q1',n0,em,q2']
       exact ⟨(by unfold I64; omega),(by unfold I64; omega),ih2 (by rw [nY,decide_eq_true q1,decide_eq_false (fun x => x q2)]; rfl)⟩
     have q2' : ((k : Int) != (((e + 1) % p.cor.length : Nat) : Int)) = true := by simp only [bne_iff_ne,ne_eq]; omega
     simp only [go_sem,bx,lc,e3,q1',n0,em,q2',ixc k hk,g0,g1,o1.1,o1.2,o2.1,o2.2,o3.1,o3.2]
     refine ⟨(by unfold I64; omega),?_⟩
     refine aC (aAT (e := e) (hp.sub aD.refl.app) ⟨by omega,by omega⟩ (by omega) hcb ⟨by omega,by omega⟩).v ?_
     by_cases q3 : eS p.cor e p.cor[k].w p.cor[k].m ≤ 0
     · simp only [go_sem,q3]
       rw [show rW p.cor = false from List.all_eq_false.2 ⟨e,List.mem_range.2 he,by
        rw [Bool.not_eq_true]
        exact List.all_eq_false.2 ⟨k,List.mem_range.2 hk,by rw [nY,aO hk,decide_eq_true q1,decide_eq_true q2,decide_eq_true q3]; simp⟩⟩]
     · simp only [go_sem,q3]
       exact ⟨(by unfold I64; omega),ih2 (by rw [nY,aO hk,decide_eq_false q3]; simp)⟩
   · refine aH aI aDP [1,6,7] L6_3.eq_1 ?_
     have e3 : ¬ (p.cor.length : Int) < p.cor.length := by omega
     simp only [go_sem,bx,lc,e3]
     exact ⟨(by unfold I64; omega),ih (dK.2 fun k hk => hall2 k hk)⟩
 refine aH aI aDO [1,6] L6_4.eq_1 ?_
 have e2 : ¬ (p.cor.length : Int) < p.cor.length := by omega
 simp only [go_sem,bx,lc,e2]
 rw [show rW p.cor = true from dK.2 fun e he => hall e he]
theorem dO {H : aA} {p : Pl} {n : Nat} {c : List AV} (r : ∀ L,rdn w0 (H ++ L) p n = some c) : rdn w0 H p n = some c := by have := r []; rwa [List.append_nil] at this
theorem tF {H : aA} {p : Pl} {c : AV} (r : ∀ L,rd w0 (H ++ L) p = some c) : rd w0 H p = some c := by have := r []; rwa [List.append_nil] at this
@[go_sem] def mQ (l : List dM) (e : Nat) : List AV := [.int .i64 e,.int .i64 (aT l e).w,.int .i64 (aT l e).m,.int .i64 ((aT l (e + 1)).w - (aT l e).w),.int .i64 ((aT l (e + 1)).m - (aT l e).m)]
structure PtD where
 items : List dF
 tlo : Int
 thi : Int
 water : List (Int × Int)
 landing : Bool
@[go_sem] def spC (x : Int × Int) : List AV := [.int .i64 x.1,.int .i64 x.2]
@[go_sem] def PtD.c (x : PtD) (iv wv : AV) : List AV := [iv,.int .i64 x.tlo,.int .i64 x.thi,wv,.bool x.landing]
structure PtV (w0 : World) (h : aA) (x : PtD) (iv wv : AV) : Prop where
 i : Sl w0 h 3 iv (x.items.map dF.c)
 w : Sl w0 h 2 wv (x.water.map spC)
theorem PtV.sub {H : aA} {x : PtD} {iv wv : AV} (a : PtV w0 h x iv wv) (s : aD h H) : PtV w0 H x iv wv := ⟨a.i.sub s,a.w.sub s⟩
def armS (p : aS) (n : Int) : Int := (p.sta.getD n.toNat ⟨0,0⟩).arm
def armF (p : aS) (i : Nat) : Int := (p.flo.getD i ⟨0,0⟩).arm
structure fR where
 kind : Int
 idx : Nat
 arm : Int
 lo : Int
 hi : Int
@[go_sem] def fR.c (x : fR) : List AV := [.int .i64 x.kind,.int .i64 x.idx,.int .i64 x.arm,.int .i64 x.lo,.int .i64 x.hi]
def rK (p : aS) (x : PtD) (i : Nat) : fR := ⟨0,i,armS p (x.items.getD i ⟨0,0,0⟩).st,(x.items.getD i ⟨0,0,0⟩).lo,(x.items.getD i ⟨0,0,0⟩).hi⟩
def kQ (p : aS) (x : PtD) (i : Nat) : fR := ⟨2,i,armF p i,(x.water.getD i (0,0)).1,(x.water.getD i (0,0)).2⟩
def cD (p : aS) (x : PtD) : List fR := (List.range x.items.length).map (rK p x) ++ ⟨1,0,p.tank.arm,x.tlo,x.thi⟩ :: (List.range x.water.length).map (kQ p x)
def PaV (x : fR) (_ : aA) (args : List AV) : Prop := args = [.agg x.c]
structure lR (p : aS) (x : PtD) : Prop where
 n : x.items.length ≤ 12
 w : x.water.length = p.flo.length
 f : p.flo.length ≤ 2
 s : ∀ i ∈ x.items,0 ≤ i.st ∧ i.st < p.sta.length
set_option maxRecDepth 20000 in
theorem uW {C : List Nat} {q b : Nat} {p : aS} {x : PtD} {cv sv fv iv wv : AV} {K : aA → Prop} (hp : (msk C h)[b]? = some (some (.row (p.c cv sv fv ++ x.c iv wv)))) (hv : dX w0 (msk C h) p cv sv fv) (hx : PtV w0 (msk C h) x iv wv) (ok : lR p x)
 (hI : eI Tryz.prog w0 q C PaV (· = []) K (cD p x) [] h) : ACall Tryz.prog w0 195 [.yld q,.ptr (.own b 0)] h fun _ H => K H := by
 refine aR aI aCl aFk aFj (qE rfl) fun hb2 ha => aL ?_
 have bx : h[b]? = some (some (.row (p.c cv sv fv ++ x.c iv wv))) := fT.2 _ _ hp
 have li : eH iv = some (.int .i64 x.items.length) := by have := hx.i.use.1; rwa [List.length_map] at this
 have lw : eH wv = some (.int .i64 x.water.length) := by have := hx.w.use.1; rwa [List.length_map] at this
 have on := ok.n
 have ow := ok.w
 have of := ok.f
 simp only [aS.c,PtD.c,List.cons_append,List.nil_append] at bx hp
 rw [List.append_nil]
 simp only [go_sem,mf195,bx,li]
 refine cG (S := aA) (fun j _ => [(0,.yld q),(1,.ptr (.own b 0)),(9,iv),(10,.int .i64 x.items.length),(11,.int .i64 j)]) (fun _ s => s) (fun j s => bY C h s ∧ eI Tryz.prog w0 q C PaV (· = []) K ((cD p x).drop j) [] s) x.items.length h ⟨bY.refl,hI⟩ rfl rfl ?_ ?_
 · rintro j H hj ⟨kH,iH⟩ ih
   refine aH aI wA [0,1,9,10,11] L195_0.eq_1 ?_
   have e1 : (j : Int) < x.items.length := by omega
   have sm : aD (msk C h) H := (kH.msk (ms := C) fun i hi => .inl hi).trans fT
   have bxH := sm.2 _ _ hp
   have bxL : ∀ L,(H ++ L : aA)[b]? = _ := fun L => aB (k := L) bxH
   obtain ⟨_,q3,ix,row,_⟩ := (hx.sub sm).i.use
   rw [List.length_map] at ix
   obtain ⟨_,q4,ix4,row4,_⟩ := (hv.sub sm).s.use
   rw [List.length_map] at ix4
   have r1 := hJ row hj
   have r1' := dO r1
   obtain ⟨y,hy⟩ : ∃ y,y = x.items[j] := ⟨_,rfl⟩
   rw [← hy] at r1 r1'
   have os := ok.s y (hy ▸ qG hj)
   obtain ⟨ks,hks⟩ : ∃ n : Nat,y.st = n := ⟨y.st.toNat,by omega⟩
   have hksl : ks < p.sta.length := by omega
   have r4 := hJ row4 hksl
   have g4 : ∀ L,rd w0 (H ++ L) ((q4.add (ks * 2)).add 0) = some (.int .i64 p.sta[ks].arm) := fun L => cV (r4 L) (o := 0) rfl
   have dr : (cD p x).drop j = rK p x j :: (cD p x).drop (j + 1) := by
    have hl : j < (cD p x).length := by simp [cD]; omega
    rw [List.drop_eq_getElem_cons hl]
    congr 1
    simp [cD,List.getElem_append_left,hj]
   have pe : rK p x j = ⟨0,j,p.sta[ks].arm,y.lo,y.hi⟩ := by
    rw [rK,aO hj,← hy,armS,hks]
    rw [show (ks : Int).toNat = ks from rfl,aO hksl]
   rw [dr,pe] at iH
   simp only [go_sem,e1,ix j hj,r1',bxL,hks,ix4 ks hksl,g4]
   refine aP (eI.call iH aD.refl.app.toK [] rfl (fun i hi => by cases hi) (fun i hi => by cases hi) (show PaV _ _ _ by simp only [PaV,fR.c])) ?_
   rintro z G1 ⟨kG,rG⟩
   have k2 : bY C h G1 := kH.trans ((aD.refl.app.toK (C := C)).trans kG)
   rcases rG with ⟨rfl,it⟩ | ⟨rfl,kk⟩
   · simp only [go_sem]
     exact ⟨(by unfold I64; omega),ih G1 ⟨k2,it⟩⟩
   · simp only [go_sem]
     exact kk _ bY.refl
 · rintro H ⟨kH,iH⟩
   refine aH aI wA [0,1,9,10,11] L195_0.eq_1 ?_
   have e1 : ¬ (x.items.length : Int) < x.items.length := by omega
   have dr : (cD p x).drop x.items.length = ⟨1,0,p.tank.arm,x.tlo,x.thi⟩ :: (List.range x.water.length).map (kQ p x) := by
    rw [cD,List.drop_append_of_le_length (by simp),List.drop_eq_nil_of_le (by simp),List.nil_append]
   rw [dr] at iH
   have sm : aD (msk C h) H := (kH.msk (ms := C) fun i hi => .inl hi).trans fT
   have bxH := sm.2 _ _ hp
   simp only [go_sem,e1,bxH]
   refine aP (eI.call iH bY.refl [] rfl (fun i hi => by cases hi) (fun i hi => by cases hi) (show PaV _ _ _ by simp only [PaV,fR.c]; rfl)) ?_
   rintro z G1 ⟨kG,rG⟩
   have k2 : bY C h G1 := kH.trans kG
   rcases rG with ⟨rfl,it⟩ | ⟨rfl,kk⟩
   rotate_left
   · simp only [go_sem]
     exact kk _ bY.refl
   have sm1 : aD (msk C h) G1 := (k2.msk (ms := C) fun i hi => .inl hi).trans fT
   have bxG := sm1.2 _ _ hp
   simp only [go_sem,bxG,lw]
   refine cG (S := aA) (fun j _ => [(0,.yld q),(1,.ptr (.own b 0)),(47,wv),(48,.int .i64 x.water.length),(49,.int .i64 j)]) (fun _ s => s) (fun j s => bY C h s ∧ eI Tryz.prog w0 q C PaV (· = []) K (((List.range x.water.length).map (kQ p x)).drop j) [] s) x.water.length G1 ⟨k2,it⟩ rfl rfl ?_ ?_
   · rintro j H hj ⟨kH,iH⟩ ih
     refine aH aI vZ [0,1,47,48,49] L195_1.eq_1 ?_
     have e1 : (j : Int) < x.water.length := by omega
     have sm : aD (msk C h) H := (kH.msk (ms := C) fun i hi => .inl hi).trans fT
     have bxH := sm.2 _ _ hp
     have bxL : ∀ L,(H ++ L : aA)[b]? = _ := fun L => aB (k := L) bxH
     obtain ⟨_,q3,ix,row,_⟩ := (hx.sub sm).w.use
     rw [List.length_map] at ix
     obtain ⟨_,q4,ix4,row4,_⟩ := (hv.sub sm).f.use
     rw [List.length_map] at ix4
     have r1 := hJ row hj
     have r1' := dO r1
     have hjf : j < p.flo.length := by omega
     have r4 := hJ row4 hjf
     have g4 : ∀ L,rd w0 (H ++ L) ((q4.add (j * 2)).add 0) = some (.int .i64 p.flo[j].arm) := fun L => cV (r4 L) (o := 0) rfl
     have dr : ((List.range x.water.length).map (kQ p x)).drop j = kQ p x j :: ((List.range x.water.length).map (kQ p x)).drop (j + 1) := by
      rw [List.drop_eq_getElem_cons (by simpa using hj)]
      congr 1
      simp
     have pe : kQ p x j = ⟨2,j,p.flo[j].arm,x.water[j].1,x.water[j].2⟩ := by
      rw [kQ,armF,aO hj,aO hjf]
     rw [dr,pe] at iH
     simp only [go_sem,e1,ix j hj,r1',bxL,ix4 j hjf,g4]
     refine aP (eI.call iH aD.refl.app.toK [] rfl (fun i hi => by cases hi) (fun i hi => by cases hi) (show PaV _ _ _ by simp only [PaV,fR.c])) ?_
     rintro z G1 ⟨kG,rG⟩
     have k2 : bY C h G1 := kH.trans ((aD.refl.app.toK (C := C)).trans kG)
     rcases rG with ⟨rfl,it⟩ | ⟨rfl,kk⟩
     · simp only [go_sem]
       exact ⟨(by unfold I64; omega),ih G1 ⟨k2,it⟩⟩
     · simp only [go_sem]
       exact kk _ bY.refl
   · rintro H ⟨kH,iH⟩
     refine aH aI vZ [0,1,47,48,49] L195_1.eq_1 ?_
     have e1 : ¬ (x.water.length : Int) < x.water.length := by omega
     rw [List.drop_eq_nil_of_le (by simp)] at iH
     simp only [go_sem,e1]
     exact iH _ bY.refl
end Go.Proofs.Ab

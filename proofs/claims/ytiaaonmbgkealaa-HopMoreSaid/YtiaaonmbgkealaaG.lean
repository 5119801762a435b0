/- The own layer under the proofs of this seat, part G: what calls of the program come to on an abstract heap. No condition. -/
import Derived.Test.YtiaaonmbgkealaaF
import Derived.RecoverIn
import Derived.ProofKit
import Derived.OpenShut
import Derived.Carry
import Derived.ChangeCalls
set_option linter.unusedSimpArgs false
set_option linter.unusedVariables false
namespace Go.Proofs.Ab
open Go
def Pl.ren (τ : Nat → Nat) : Pl → Pl
 | .old a => .old a
 | .own i o => .own (τ i) o
mutual
def AV.ren (τ : Nat → Nat) : AV → AV
 | .agg l => .agg (AV.rens τ l)
 | .tup l => .tup (AV.rens τ l)
 | .ptr p => .ptr (p.ren τ)
 | .sl p n es f => .sl (p.ren τ) n es f
 | .map i => .map (τ i)
 | .yld i => .yld (τ i)
 | .fn f a b => .fn f (AV.rens τ a) (AV.rens τ b)
 | .ifc t v => .ifc t (v.ren τ)
 | .undef => .undef
 | .int k n => .int k n
 | .bool b => .bool b
 | .str s => .str s
 | .nilP => .nilP
 | .nilS => .nilS
 | .nilM => .nilM
 | .nilF => .nilF
 | .nilI => .nilI
def AV.rens (τ : Nat → Nat) : List AV → List AV
 | [] => []
 | x :: xs => x.ren τ :: AV.rens τ xs
end
theorem aCc {τ : Nat → Nat} {l : List AV} : AV.rens τ l = l.map (AV.ren τ) := by
 induction l with
 | nil => simp [AV.rens]
 | cons x xs ih => simp [AV.rens,ih]
def Fr.ren (τ : Nat → Nat) (fr : Fr) : Fr := fr.map fun p => (p.1,p.2.ren τ)
def Blk.ren (τ : Nat → Nat) : Blk → Blk
 | .row c => .row (AV.rens τ c)
 | .map es => .map (es.map fun e => (e.1.ren τ,e.2.ren τ))
 | .loop nt fr ps a b st pd => .loop nt (Fr.ren τ fr) ps a b st pd
theorem Fr.ren_get {τ : Nat → Nat} {fr : Fr} (t : Nat) : (Fr.ren τ fr).get t = (fr.get t).ren τ := by
 induction fr with
 | nil => simp [Fr.ren,Fr.get,AV.ren]
 | cons p r ih =>
  simp only [Fr.ren,List.map_cons,Fr.get]
  split
  · rfl
  · exact ih
def Emb.comp (m : Emb) (τ : Nat → Nat) : Emb := ⟨fun i => m.blk (τ i),fun i => m.base (τ i),fun i => m.sz (τ i)⟩
theorem aEU {m : Emb} {τ : Nat → Nat} (p : Pl) : (m.comp τ).pl p = m.pl (p.ren τ) := by cases p <;> rfl
mutual
theorem pB {m : Emb} {τ : Nat → Nat} : ∀ (v : AV) (x : Value),VR m (v.ren τ) x → VR (m.comp τ) v x
 | .undef,_,_ => by simp only [VR]
 | .int _ _,_,h | .bool _,_,h | .str _,_,h | .nilP,_,h | .nilS,_,h | .nilM,_,h | .nilF,_,h | .nilI,_,h => by simpa only [AV.ren,VR] using h
 | .agg l,x,h => by simp only [AV.ren,VR] at *; obtain ⟨a,e,h⟩ := h; exact ⟨a,e,VRs_ren l _ h⟩
 | .tup l,x,h => by simp only [AV.ren,VR] at *; obtain ⟨a,e,h⟩ := h; exact ⟨a,e,VRs_ren l _ h⟩
 | .ptr p,x,h => by simp only [AV.ren,VR] at *; rw [aEU]; exact h
 | .sl p n es f,x,h => by
  simp only [AV.ren,VR] at *
  obtain ⟨a,cap,e,h1,h2,h3⟩ := h
  refine ⟨a,cap,e,h1,h2,h3.imp id fun ⟨e1,e2⟩ => ⟨by rw [aEU]; exact e1,fun i off hp => ?_⟩⟩
  subst hp
  exact e2 (τ i) off rfl
 | .map i,x,h => by simp only [AV.ren,VR] at *; exact h
 | .yld i,x,h => by simp only [AV.ren,VR] at *; exact h
 | .fn f a b,x,h => by
  simp only [AV.ren,VR] at *
  obtain ⟨p,q,e,h1,h2⟩ := h
  exact ⟨p,q,e,VRs_ren a _ h1,VRs_ren b _ h2⟩
 | .ifc t v,x,h => by
  simp only [AV.ren,VR] at *
  obtain ⟨y,e,h⟩ := h
  exact ⟨y,e,pB v _ h⟩
theorem VRs_ren {m : Emb} {τ : Nat → Nat} : ∀ (l : List AV) (x : List Value),VRs m (AV.rens τ l) x → VRs (m.comp τ) l x
 | [],_,h => by simpa only [AV.rens,VRs] using h
 | v :: l,x,h => by
  simp only [AV.rens,VRs] at *
  obtain ⟨y,ys,e,h1,h2⟩ := h
  exact ⟨y,ys,e,pB v _ h1,VRs_ren l _ h2⟩
end
theorem BR_ren {m : Emb} {τ : Nat → Nat} {d n : Nat} {b : Blk} {o : Option Obj} (h : BR m d n (b.ren τ) o) : BR (m.comp τ) d n b o := by
 cases b with
 | row c =>
  obtain ⟨ca,e,rfl,h1,h2⟩ := h
  refine ⟨ca,e,rfl,h1,fun k x hx => ?_⟩
  obtain ⟨y,hy,hv⟩ := h2 k (x.ren τ) (by rw [aCc]; simp [hx])
  exact ⟨y,hy,pB _ _ hv⟩
 | map es =>
  obtain ⟨ea,ck,rfl,h1,h2,h3,h4⟩ := h
  refine ⟨ea,ck,rfl,by simpa using h1,fun k x hx => ?_,h3,h4⟩
  obtain ⟨e,he,hv1,hv2⟩ := h2 k (x.1.ren τ,x.2.ren τ) (by simp [hx])
  exact ⟨e,he,pB _ _ hv1,pB _ _ hv2⟩
 | loop nt fr ps a c st p =>
  obtain ⟨L,rfl,h1,h2,h3,h4,h5,h6,h7⟩ := h
  exact ⟨L,rfl,h1,h2,h3,h4,h5,h6,fun t => pB _ _ (by rw [← Fr.ren_get]; exact h7 t)⟩
def Eqv : Blk → Blk → Prop
 | .loop nt fr ps x y st pd,.loop nt' fr' ps' x' y' st' pd' => nt = nt' ∧ ps = ps' ∧ x = x' ∧ y = y' ∧ st = st' ∧ pd = pd' ∧ ∀ t,fr.get t = fr'.get t
 | a,b => a = b
theorem Eqv.refl (b : Blk) : Eqv b b := by cases b <;> simp [Eqv]
theorem BR_eqv {m : Emb} {d n : Nat} {b b' : Blk} {o : Option Obj} (e : Eqv b b') (h : BR m d n b o) : BR m d n b' o := by
 cases b <;> cases b' <;> simp only [Eqv] at e
 case row.row => cases e; exact h
 case map.map => cases e; exact h
 case loop.loop =>
  obtain ⟨rfl,rfl,rfl,rfl,rfl,rfl,e⟩ := e
  obtain ⟨L,rfl,h1,h2,h3,h4,h5,h6,h7⟩ := h
  exact ⟨L,rfl,h1,h2,h3,h4,h5,h6,fun t => by rw [← e]; exact h7 t⟩
 all_goals cases e
section
variable {P : Program} {w0 : World} {r : Option Nat} {nt Z : Nat} {fr : Fr} {h : Heap} {Q : Exit → Fr → Heap → Prop} {k : List It} {a : SC}
structure aGG (τ : Nat → Nat) (Z : Nat) (fr fr' : Fr) (h h' : Heap) : Prop where
 hz : Z ≤ h'.length
 idn : ∀ i,i < Z → τ i = i
 inj : ∀ i j,i < h'.length → j < h'.length → τ i = τ j → i = j
 blk : ∀ (i : Nat) b,h'[i]? = some (some b) → ∃ b',h[τ i]? = some (some b') ∧ Eqv b' (b.ren τ)
 hb : HB h'
 fb : ∀ t,(fr'.get t).bdd h'.length
 fr : ∀ t,fr'.get t = .undef ∨ (fr'.get t).ren τ = fr.get t
theorem SA.ren {τ : Nat → Nat} {fr' : Fr} {h' : Heap} (k : aGG τ Z fr fr' h h') {l : Option Nat} {B : Bs} {m : Emb} {a : Act} {w : World} (sa : SA w0 r l nt Z B m fr h a w) : SA w0 r l nt Z B (m.comp τ) fr' h' a w := by
 have hlt : ∀ (i : Nat) b,h'[i]? = some (some b) → i < h'.length := fun i b hi => by
  rcases Nat.lt_or_ge i h'.length with h1 | h1
  · exact h1
  · rw [List.getElem?_eq_none h1] at hi; cases hi
 refine ⟨⟨sa.sim.size,sa.sim.old,fun i b hi => ?_,fun i j b c hij hi hj => ?_⟩,fun t => ⟨?_,k.fb t⟩,sa.size,sa.low,?_,?_,sa.inr,k.hz⟩
 · obtain ⟨b',hb',he⟩ := k.blk i b hi
   obtain ⟨h1,h2,_⟩ := sa.sim.at_ (τ i) _ hb'
   exact ⟨h1,BR_ren (BR_eqv he h2),k.hb i b hi⟩
 · obtain ⟨b',hb',_⟩ := k.blk i b hi
   obtain ⟨c',hc',_⟩ := k.blk j c hj
   exact sa.sim.inj (τ i) (τ j) _ _ (fun e => hij (k.inj i j (hlt i b hi) (hlt j c hj) e)) hb' hc'
 · rcases k.fr t with e | e
   · rw [e]; simp [VR]
   · exact pB _ _ (by rw [e]; exact (sa.frame t).1)
 · obtain ⟨rs,h1,h2,h3⟩ := sa.marks
   exact ⟨rs,h1,h2,fun q hq => ⟨(h3 q hq).1,(h3 q hq).2.1,fun i b hi => let ⟨b',hb',_⟩ := k.blk i b hi; (h3 q hq).2.2 (τ i) _ hb'⟩⟩
 · rw [sa.rnd]
   cases hr : r with
   | none => rfl
   | some i => simp [Emb.comp,k.idn i (sa.inr i hr)]
theorem mK.ren {τ : Nat → Nat} {fr' : Fr} {h' : Heap} (k : aGG τ Z fr fr' h h') {l : Option Nat} {B : Bs} {m : Emb} {a : Act} {w w' : World} {e : Exit} (p : mK w0 r l nt Z B (m.comp τ) h' w Q e a w') : mK w0 r l nt Z B m h w Q e a w' := by
 obtain ⟨m',fr1,h1,s,sa,q⟩ := p
 refine ⟨m',fr1,h1,⟨s.sim,fun i hi => ?_,⟨s.mods.size,fun c hc hn => s.mods.same c hc fun i b hi => let ⟨b',hb',_⟩ := k.blk i b hi; hn (τ i) _ hb',s.mods.os,s.mods.tape,s.mods.output⟩,s.le,fun i b hi hlt => ?_⟩,sa,q⟩
 · have := s.ext i hi
   simp only [Emb.comp,k.idn i hi] at this
   exact this
 · obtain ⟨j,c,hj,e⟩ := s.roots i b hi hlt
   obtain ⟨c',hc',_⟩ := k.blk j c hj
   exact ⟨τ j,_,hc',e⟩
def shf (N : Nat) (js : List Nat) (i : Nat) : Nat := if i < N then i else N + js.getD (i - N) 0
mutual
theorem AV.ren_bdd {N : Nat} {js : List Nat} : ∀ {v : AV},v.bdd N → v.ren (shf N js) = v
 | .agg l,h => by simp only [AV.bdd,AV.ren] at *; rw [AV.rens_bdd h]
 | .tup l,h => by simp only [AV.bdd,AV.ren] at *; rw [AV.rens_bdd h]
 | .ptr (.old a),h => by simp only [AV.ren,Pl.ren]
 | .ptr (.own i o),h => by simp only [AV.bdd,Pl.bdd,AV.ren,Pl.ren] at *; simp [shf,h]
 | .sl (.old a) _ _ _,h => by simp only [AV.ren,Pl.ren]
 | .sl (.own i o) _ _ _,h => by simp only [AV.bdd,Pl.bdd,AV.ren,Pl.ren] at *; simp [shf,h]
 | .map i,h => by simp only [AV.bdd,AV.ren] at *; simp [shf,h]
 | .yld i,h => by simp only [AV.bdd,AV.ren] at *; simp [shf,h]
 | .fn _ a b,h => by simp only [AV.bdd,AV.ren] at *; rw [AV.rens_bdd h.1,AV.rens_bdd h.2]
 | .ifc _ v,h => by simp only [AV.bdd,AV.ren] at *; rw [AV.ren_bdd h]
 | .undef,_ | .int _ _,_ | .bool _,_ | .str _,_ | .nilP,_ | .nilS,_ | .nilM,_ | .nilF,_ | .nilI,_ => by simp only [AV.ren]
theorem AV.rens_bdd {N : Nat} {js : List Nat} : ∀ {l : List AV},AV.bdds N l → AV.rens (shf N js) l = l
 | [],_ => by simp only [AV.rens]
 | x :: xs,h => by simp only [AV.bdds,AV.rens] at *; rw [AV.ren_bdd h.1,AV.rens_bdd h.2]
end
theorem Blk.ren_row {N : Nat} {js : List Nat} {c : List AV} (h : AV.bdds N c) : Blk.ren (shf N js) (.row c) = .row c := by simp only [Blk.ren,AV.rens_bdd h]
theorem aB1 {N : Nat} {fr : Fr} {js : List Nat} (h : ∀ t,(fr.get t).bdd N) (t : Nat) : (Fr.ren (shf N js) fr).get t = fr.get t := by
 rw [Fr.ren_get,AV.ren_bdd (h t)]
structure Ord (N : Nat) (js : List Nat) (fr fr' : Fr) (L L' : Heap) : Prop where
 len : js.length = L'.length
 nod : js.Nodup
 blk : ∀ (j : Nat) b,L'[j]? = some (some b) → ∃ q,js[j]? = some q ∧ L[q]? = some (some (b.ren (shf N js)))
 hb : HBs (N + L'.length) L'
 fb : FB (N + L'.length) fr'
 fr : Fr.ren (shf N js) fr' = fr
theorem aEQ {N : Nat} {js : List Nat} {b : Blk} (hb : b.bdd N) : Eqv b (b.ren (shf N js)) := by
 cases b with
 | row c => rw [Blk.ren_row (bV.2 hb)]; exact .refl _
 | map es =>
  have : ∀ e ∈ es,((fun e : AV × AV => (e.1.ren (shf N js),e.2.ren (shf N js))) e) = e := fun e he => by
   simp [AV.ren_bdd (hb e he).1,AV.ren_bdd (hb e he).2]
  simp only [Blk.ren]
  rw [List.map_congr_left this]; simp [Eqv]
 | loop nt fr ps x y st pd => exact ⟨rfl,rfl,rfl,rfl,rfl,rfl,fun t => (aB1 hb t).symm⟩
theorem Ord.ok {js : List Nat} {fr' : Fr} {L L' : Heap} (hz : Z ≤ h.length) (hb : HB h) (o : Ord h.length js fr fr' L L') : aGG (shf h.length js) Z fr fr' (h ++ L) (h ++ L') := by
 have hjs : ∀ j q,js[j]? = some q → js.getD j 0 = q := fun j q e => by rw [List.getD_eq_getElem?_getD,e]; rfl
 refine ⟨by simp; omega,fun i hi => by simp [shf]; omega,fun i j hi hj e => ?_,fun i b hi => ?_,vF hb o.hb,fun t => by rw [List.length_append]; exact o.fb.get t,fun t => .inr ?_⟩
 · rw [List.length_append] at hi hj
   simp only [shf] at e
   by_cases h1 : i < h.length
   · rw [if_pos h1] at e
     by_cases h2 : j < h.length
     · rw [if_pos h2] at e; exact e
     · rw [if_neg h2] at e; omega
   · rw [if_neg h1] at e
     by_cases h2 : j < h.length
     · rw [if_pos h2] at e; omega
     · rw [if_neg h2] at e
       have hi' : i - h.length < js.length := by rw [o.len]; omega
       have hj' : j - h.length < js.length := by rw [o.len]; omega
       have e' : js.getD (i - h.length) 0 = js.getD (j - h.length) 0 := by omega
       rw [List.getD_eq_getElem?_getD,List.getD_eq_getElem?_getD,List.getElem?_eq_getElem hi',List.getElem?_eq_getElem hj'] at e'
       simp only [Option.getD_some] at e'
       have hp := List.pairwise_iff_getElem.1 o.nod
       rcases Nat.lt_trichotomy (i - h.length) (j - h.length) with a | a | a
       · exact absurd e' (hp _ _ hi' hj' a)
       · omega
       · exact absurd e'.symm (hp _ _ hj' hi' a)
 · rcases Nat.lt_or_ge i h.length with h1 | h1
   · rw [List.getElem?_append_left h1] at hi
     have : shf h.length js i = i := by simp [shf,h1]
     rw [this,List.getElem?_append_left h1]; exact ⟨b,hi,aEQ (hb i b hi)⟩
   · rw [List.getElem?_append_right h1] at hi
     obtain ⟨q,hq,hb'⟩ := o.blk _ b hi
     have : shf h.length js i = h.length + q := by simp only [shf]; rw [if_neg (by omega),hjs _ _ hq]
     rw [this,List.getElem?_append_right (by omega),Nat.add_sub_cancel_left]; exact ⟨_,hb',.refl _⟩
 · rw [← o.fr,Fr.ren_get]
end
end Go.Proofs.Ab
namespace Go.Proofs.Ab
open Go
def aQ (l : List Int) : List AV := l.map (.int .i64)
@[simp] theorem qB (l : List Int) : (aQ l).length = l.length := by simp [aQ]
@[simp] theorem ints_bdd (N : Nat) (l : List Int) : AV.bdds N (aQ l) := by
 rw [bV]; intro x hx; simp only [aQ,List.mem_map] at hx; obtain ⟨z,_,rfl⟩ := hx; trivial
@[simp] theorem ints_ren (τ : Nat → Nat) (l : List Int) : AV.rens τ (aQ l) = aQ l := by
 rw [aCc]; simp [aQ,AV.ren]
@[simp] theorem mU (l : List Int) : (aQ l).all one = true := by
 simp only [List.all_eq_true,aQ,List.mem_map]; rintro x ⟨z,_,rfl⟩; rfl
theorem aFW (l : List Int) (z : Int) : aQ l ++ [.int .i64 z] = aQ (l ++ [z]) := by simp [aQ]
@[simp] theorem ints_get (l : List Int) (j : Nat) : (aQ l)[j]? = l[j]?.map (AV.int .i64) := by simp [aQ]
section
variable {w0 : World} {h : Heap}
mutual
theorem AV.ren_id {M : Nat} {τ : Nat → Nat} (hτ : ∀ i,i < M → τ i = i) : ∀ {v : AV},v.bdd M → v.ren τ = v
 | .agg l,h => by simp only [AV.bdd,AV.ren] at *; rw [AV.rens_id hτ h]
 | .tup l,h => by simp only [AV.bdd,AV.ren] at *; rw [AV.rens_id hτ h]
 | .ptr (.old a),h => by simp only [AV.ren,Pl.ren]
 | .ptr (.own i o),h => by simp only [AV.bdd,Pl.bdd,AV.ren,Pl.ren] at *; rw [hτ i h]
 | .sl (.old a) _ _ _,h => by simp only [AV.ren,Pl.ren]
 | .sl (.own i o) _ _ _,h => by simp only [AV.bdd,Pl.bdd,AV.ren,Pl.ren] at *; rw [hτ i h]
 | .map i,h => by simp only [AV.bdd,AV.ren] at *; rw [hτ i h]
 | .yld i,h => by simp only [AV.bdd,AV.ren] at *; rw [hτ i h]
 | .fn _ a b,h => by simp only [AV.bdd,AV.ren] at *; rw [AV.rens_id hτ h.1,AV.rens_id hτ h.2]
 | .ifc _ v,h => by simp only [AV.bdd,AV.ren] at *; rw [AV.ren_id hτ h]
 | .undef,_ | .int _ _,_ | .bool _,_ | .str _,_ | .nilP,_ | .nilS,_ | .nilM,_ | .nilF,_ | .nilI,_ => by simp only [AV.ren]
theorem AV.rens_id {M : Nat} {τ : Nat → Nat} (hτ : ∀ i,i < M → τ i = i) : ∀ {l : List AV},AV.bdds M l → AV.rens τ l = l
 | [],_ => by simp only [AV.rens]
 | x :: xs,h => by simp only [AV.bdds,AV.rens] at *; rw [AV.ren_id hτ h.1,AV.rens_id hτ h.2]
end
end
end Go.Proofs.Ab
namespace Go.Proofs.Ab
open Go
def aC (G H : Heap) : Prop := G.length ≤ H.length ∧ ∀ (i : Nat) b,G[i]? = some (some b) → H[i]? = some (some b)
section
variable {w0 : World} {G H : Heap}
theorem aC.rd (s : aC G H) {p : Pl} {v : AV} (e : Ab.rd w0 G p = some v) : Ab.rd w0 H p = some v := by
 cases p with
 | old a => exact e
 | own i o =>
  simp only [Ab.rd] at e ⊢
  split at e
  · rename_i c hc; rw [s.2 _ _ hc]; exact e
  · cases e
theorem aC.rdn (s : aC G H) {p : Pl} {n : Nat} {v : List AV} (e : Ab.rdn w0 G p n = some v) : Ab.rdn w0 H p n = some v := by
 cases p with
 | old a => exact e
 | own i o =>
  simp only [Ab.rdn] at e ⊢
  split at e
  · rename_i c hc; rw [s.2 _ _ hc]; exact e
  · cases e
theorem Sl.sub {es : Nat} {v : AV} {rows : List (List AV)} (s : Sl w0 G es v rows) (t : aC G H) : Sl w0 H es v rows := by
 rcases s with s | ⟨p,full,s1,s2,s3⟩
 · exact .inl s
 · exact .inr ⟨p,full,s1,Pl.bdd_mono t.1 s2,fun j c hc => t.rdn (s3 j c hc)⟩
theorem aC.refl : aC G G := ⟨Nat.le_refl _,fun _ _ e => e⟩
theorem aC.app {L : Heap} (s : aC G H) : aC G (H ++ L) := ⟨by rw [List.length_append]; have := s.1; omega,fun i b e => aA (s.2 i b e)⟩
theorem aC.trans {K : Heap} (s : aC G H) (t : aC H K) : aC G K := ⟨Nat.le_trans s.1 t.1,fun i b e => t.2 i b (s.2 i b e)⟩
theorem aC.msk {i : Nat} : aC (G.set i none) G := ⟨by simp,fun j b e => by
 rw [List.getElem?_set] at e
 split at e
 · split at e <;> cases e
 · exact e⟩
theorem iO {α : Type} {l k : List α} {i : Nat} {x : α} (h : i < l.length) : (l ++ k).set i x = l.set i x ++ k := by
 rw [List.set_append_left _ _ h]
theorem aHu {p : Pl} {a b : Nat} {x y : List AV} (e : Ab.rdn w0 H p a = some x) (e2 : Ab.rdn w0 H (p.add a) b = some y) : Ab.rdn w0 H p (a + b) = some (x ++ y) := by
 cases p with
 | own i o =>
  simp only [Ab.rdn,Pl.add] at e e2 ⊢
  split at e
  · rename_i c hc
    rw [hc] at e2
    simp only at e2 ⊢
    split at e
    · split at e2
      · cases e; cases e2
        rw [if_pos (by omega),List.take_add,List.drop_drop]
      · cases e2
    · cases e
  · cases e
 | old q =>
  simp only [Ab.rdn,Pl.add] at e e2 ⊢
  rw [List.range_add,List.mapM_append,e]
  have : (List.map (fun x => a + x) (List.range b)).mapM (fun j => (w0.cell? (q.add j)).map inj) = (List.range b).mapM (fun j => (w0.cell? ((q.add a).add j)).map inj) := by
   rw [List.mapM_map]
   congr 1
   funext j
   have := Pl.add_add (p := .old q) (m := a) (n := j)
   simp only [Pl.add,Pl.old.injEq] at this
   simp [this]
  rw [this,e2]; rfl
theorem Sl.all {es : Nat} {p : Pl} : ∀ {rows : List (List AV)},rows ≠ [] → (∀ (j : Nat) c,rows[j]? = some c → Ab.rdn w0 H (p.add (j * es)) es = some c) → Ab.rdn w0 H p (rows.length * es) = some rows.flatten
 | [],h,_ => absurd rfl h
 | [c],_,h => by
  have := h 0 c rfl
  simpa [show p.add 0 = p by cases p <;> simp [Pl.add,Addr.add]] using this
 | c :: d :: l,_,h => by
  have h0 := h 0 c rfl
  rw [Nat.zero_mul,show p.add 0 = p by cases p <;> simp [Pl.add,Addr.add]] at h0
  have := Sl.all (p := p.add es) (rows := d :: l) (by simp) fun j c hc => by
   have := h (j + 1) c (by simpa using hc)
   rw [Pl.add_add,show es + j * es = (j + 1) * es by rw [Nat.succ_mul]; omega]; exact this
  have := aHu h0 this
  rw [show (c :: d :: l).length * es = es + (d :: l).length * es by simp only [List.length_cons,Nat.succ_mul]; omega,List.flatten_cons]
  exact this
theorem aAO {es b n : Nat} {old : List AV} {rows : List (List AV)} {y : AV} {p : Pl} (s : Sl w0 H es y rows) (hr : rows ≠ []) (ho : ∀ c ∈ rows,c.all one = true) (hp : Ab.rdn w0 H p (n * es) = some old) (hb : b ≤ 1000000) (hn2 : n + rows.length ≤ 1000000) :
 fM w0 H es b (.sl p n es true) y = some (.sl (.own H.length 0) (n + rows.length) es false,H ++ [some (.row (old ++ rows.flatten))]) := by
 rcases s with ⟨s1,s2⟩ | ⟨q,full,s1,s2,s3⟩
 · exact absurd s2 hr
 · obtain ⟨es',rfl,he⟩ := s1
   have hr2 := Sl.all hr s3
   have hne : rows.length ≠ 0 := fun e => hr (List.eq_nil_of_length_eq_zero e)
   have hsz : (n + rows.length) * (b + 1) ≤ 2 ^ 40 := Nat.le_trans (Nat.mul_le_mul hn2 (show b + 1 ≤ 1000001 by omega)) (by decide)
   have ho2 : rows.flatten.all one = true := by
    rw [List.all_eq_true]; intro x hx
    obtain ⟨c,hc,hx⟩ := List.mem_flatten.1 hx
    exact List.all_eq_true.1 (ho c hc) x hx
   simp only [fM,srcOf,he,oV,if_true,hr2,Option.map_some,Option.bind_some]
   rw [if_neg hne,if_pos ⟨trivial,hsz,ho2⟩]
   simp [hp,jR]
@[go_sem] theorem app_none {es b n es' : Nat} {p : Pl} {f : Bool} : fM w0 H es b (.sl p n es' f) .nilS = some (.sl p n es' f,H) := by
 simp [fM,srcOf]
end
end Go.Proofs.Ab
namespace Go.Proofs.Ab
open Go
theorem pE {n : Nat} (h : n < 2 ^ 62) : IntKind.i64.wrap n = n := by
 have h1 : (n : Int) % 2 ^ 64 = n := by omega
 simp only [IntKind.wrap,IntKind.bits,IntKind.signed,h1]
 rw [if_neg]
 simp; omega
theorem aGr {a b : Nat} (ha : a < 2 ^ 62) (hb : b < 2 ^ 62) : bin .or (.int .i64 (a : Int)) (.int .i64 (b : Int)) = some (.int .i64 ((a ||| b : Nat) : Int)) := by
 have : a ||| b < 2 ^ 62 := Nat.or_lt_two_pow ha hb
 simp only [bin,if_true,iY,lK]
 rw [show (BitVec.ofInt IntKind.i64.bits (a : Int) ||| BitVec.ofInt IntKind.i64.bits (b : Int)).toNat = a ||| b by
  rw [BitVec.toNat_or,BitVec.ofInt_natCast,BitVec.ofInt_natCast,BitVec.toNat_ofNat,BitVec.toNat_ofNat,Nat.mod_eq_of_lt,Nat.mod_eq_of_lt]
  · simp [IntKind.bits]; omega
  · simp [IntKind.bits]; omega]
 rw [pE this]
theorem nH {n : Nat} (hn : n < 62) : bin .shl (.int .i64 1) (.int .i64 (n : Int)) = some (.int .i64 ((2 ^ n : Nat) : Int)) := by
 have h2 : 2 ^ n ≤ 2 ^ 61 := Nat.pow_le_pow_right (by omega) (by omega)
 have h3 : min (n : Int).toNat IntKind.i64.bits = n := by simp [IntKind.bits]; omega
 have h4 : (1 : Int) * 2 ^ n = ((2 ^ n : Nat) : Int) := by rw [Int.one_mul,Int.natCast_pow]; rfl
 simp only [bin,nO]
 rw [if_neg (by omega),h3,h4]
 have h5 : inK .i64 ((2 ^ n : Nat) : Int) = true := by
  have e1 : IntKind.i64.min = -9223372036854775808 := by decide
  have e2 : IntKind.i64.max = 9223372036854775807 := by decide
  simp only [inK,Bool.and_eq_true,decide_eq_true_eq,e1,e2]
  generalize 2 ^ n = m at h2
  omega
 simp only [fR,h5,if_true]
theorem iT {a n : Nat} (hn : n < 62) : bin .shr (.int .i64 (a : Int)) (.int .i64 (n : Int)) = some (.int .i64 ((a / 2 ^ n : Nat) : Int)) := by
 have h3 : min (n : Int).toNat IntKind.i64.bits = n := by simp [IntKind.bits]; omega
 have h4 : (2 : Int) ^ n = ((2 ^ n : Nat) : Int) := by rw [Int.natCast_pow]; rfl
 simp only [bin,nO]
 rw [if_neg (by omega),h3,h4]
 simp only [Int.fdiv_eq_ediv_of_nonneg _ (Int.natCast_nonneg (2 ^ n)),Int.natCast_ediv]
end Go.Proofs.Ab
namespace Go.Proofs.Ab
open Go
def wH (h : Heap) (sh : Bool × List Bool) (z : AV) (ok : Bool) (x k : AV) : Option AV := if (keq sh k k).isNone then none else match x with
 | .nilM => some (if ok then .tup [z,.bool false] else z)
 | .map i => match h[i]? with
  | some (some (.map es)) => match lA sh k es 0 with
   | some (some (_,v)) => some (if ok then .tup [v,.bool true] else v)
   | some none => some (if ok then .tup [z,.bool false] else z)
   | none => none
  | _ => none
 | _ => none
section
variable {w0 : World} {h : Heap} {fr : Fr}
@[go_sem] theorem aop_look {sh : Bool × List Bool} {z : AV} {ok : Bool} {x k : Opd} : aop w0 (.look sh z ok x k) fr h = onV (wH h sh z ok (x.ev fr) (k.ev fr)) h := by
 simp only [aop,wH]
 split
 · rfl
 · cases Opd.ev fr x with
   | map i =>
    simp only
    cases h[i]? with
    | none => rfl
    | some b => cases b with
     | none => rfl
     | some b => cases b with
      | map es =>
       simp only
       cases lA sh (Opd.ev fr k) es 0 with
       | none => rfl
       | some r => cases r <;> rfl
      | _ => rfl
   | _ => rfl
def aCj (h : Heap) (sh : Bool × List Bool) (m k v : AV) : Option (AV × Heap) := if (keq sh k k).isNone then none else match m with
 | .map i => match h[i]? with
  | some (some (.map es)) => match lA sh k es 0 with
   | some (some (j,_)) => some (.undef,h.set i (some (.map (es.set j (k,v)))))
   | some none => some (.undef,h.set i (some (.map (es ++ [(k,v)]))))
   | none => none
  | _ => none
 | _ => none
@[go_sem] theorem aop_mput {sh : Bool × List Bool} {m k v : Opd} : aop w0 (.mput sh m k v) fr h = aCj h sh (m.ev fr) (k.ev fr) (v.ev fr) := (rfl)
theorem ACall.vc {P : Program} {f : FuncId} {first args capt : List AV} {K : AV → Heap → Prop} (c : ACall P w0 f (first ++ args ++ capt) h K) : aS P w0 (.fn (.func f) first capt) args h K := c
theorem aC.keep {A B : Heap} {im i : Nat} {c : Blk} (s : aC (A.set im none) (B.set im none)) (hne : im ≠ i) (e : A[i]? = some (some c)) : B[i]? = some (some c) := by
 have := s.2 i c (by rw [List.getElem?_set_ne hne]; exact e)
 rwa [List.getElem?_set_ne hne] at this
theorem aC.len {A B : Heap} {im : Nat} (s : aC (A.set im none) (B.set im none)) : A.length ≤ B.length := by have := s.1; simpa using this
end
end Go.Proofs.Ab
namespace Go.Proofs.Ab
open Go
section
variable {P : Program} {w0 : World} {h : Heap}
theorem zB {f : FuncId} {args : List AV} {K : AV → Prop} (e : ACall P w0 f args h fun v h' => aC h h' ∧ v.bdd h.length ∧ K v) : ACall P w0 f args h fun v h1 => h1 = h ∧ K v := by
 refine ⟨e.1,fun m w vs s hv hb => (e.2 m w vs s hv hb).mono fun en w' ⟨v',e1,m',v,h',st,hvr,_,hs,hbd,hk⟩ => ?_⟩
 have hs' := hs.2
 refine ⟨v',e1,m',v,h,⟨⟨st.sim.size,st.sim.old,fun i b hi => ?_,fun i j b c hij hi hj => st.sim.inj i j b c hij (hs' i b hi) (hs' j c hj)⟩,st.ext,st.mods,Nat.le_refl _,fun i b hi => st.roots i b (hs' i b hi)⟩,hvr,hbd,rfl,hk⟩
 obtain ⟨h1,h2,_⟩ := st.sim.at_ i b (hs' i b hi)
 exact ⟨h1,h2,(s.at_ i b hi).2.2⟩
theorem qQ {f : FuncId} {args : List AV} {v : AV} (hv : v.bdd h.length) (e : ACall P w0 f args h fun v' h' => aC h h' ∧ v' = v) : aM P w0 f args h v h :=
 (zB (K := fun v' => v' = v) (e.mono fun _ _ ⟨h1,h2⟩ => ⟨h1,h2 ▸ hv,h2⟩)).mono fun _ _ ⟨h1,h2⟩ => ⟨h2,h1⟩
end
end Go.Proofs.Ab
namespace Go.Proofs.Ab
open Go
section
variable {P : Program} {w0 : World} {nt Z : Nat} {fr : Fr} {h : Heap}
def aAJ (w0 : World) (rs : List RV) (Q : AV → Heap → Prop) (X : List PanicEntry → Heap → Prop) : Exit → Fr → Heap → Prop
 | .normal,fr,h => ∃ v,iG w0 rs fr h = some v ∧ Q v h
 | .ret,fr,h => ∃ v,iG w0 rs fr h = some v ∧ Q v h
 | .panic ch,_,h => X ch h
 | _,_,_ => False
theorem lU {fn : Func} {tmps : Array Value} {R : Ending → World → Prop} {ds : List Deferred} {u : FrameMode} (hu : u ≠ .run) {m m' : Emb} {h h' : Heap} {w : World} (h0 : w0.heap.size ≤ w.heap.size) :
 ∀ (qs : List Nat) (w1 : World),qs.Nodup → bO w0 m m' h h' w w1 → (∀ q ∈ qs,w.heap.size ≤ q ∧ w1.heap[q]? = some (.deferred (some [])) ∧ ∀ (i : Nat) b,h'[i]? = some (some b) → m'.blk i ≠ q) →
  (∀ w2,bO w0 m m' h h' w w2 → (∀ c,c ∉ qs → w2.heap[c]? = w1.heap[c]?) → LeavesInM Fence.wide 0 P fn tmps R ds u w2) → LeavesInM Fence.wide 0 P fn tmps R (qs.map kY ++ ds) u w1 := by
 intro qs
 induction qs with
 | nil => intro w1 _ st1 _ k; exact k w1 st1 fun _ _ => rfl
 | cons q qs ih =>
  intro w1 hnd st1 hall k
  obtain ⟨g1,g2,g3⟩ := hall q List.mem_cons_self
  have hlt : q < w1.heap.size := by
   rcases Nat.lt_or_ge q w1.heap.size with hl | hl
   · exact hl
   · rw [Array.getElem?_eq_none hl] at g2; cases g2
  simp only [List.nodup_cons] at hnd
  refine ⟨hu,.inl ⟨q,dM w1 q (.deferred none),rfl,?_,ih _ hnd.2 (st1.aside g1 g3 h0) (fun q' hq' => ?_) fun w2 st2 hsame => k w2 st2 fun c hc => by
   rw [hsame c fun hh => hc (List.mem_cons_of_mem _ hh)]
   exact fG fun e => hc (by rw [e]; exact List.mem_cons_self)⟩⟩
  · have e1 := dG (P := P) g2 (by simp)
    have e2 := fN (P := P) (.deferred none) g2 (by simp)
    simp only [Instr.takeDeferred,Sem.run_bind,e1,Result.andThen_ok,e2,Sem.run_pure]
    rfl
  · obtain ⟨k1,k2,k3⟩ := hall q' (List.mem_cons_of_mem _ hq')
    refine ⟨k1,?_,k3⟩
    have hne : q' ≠ q := fun e => by rw [e] at hq'; exact hnd.1 hq'
    rw [fG hne]
    exact k2
theorem aCv {mf : MF} {fn : Func} (hnt : mf.nt = fn.ntmps) {args : List AV} (hn : args.length ≤ mf.nt) {m : Emb} {w : World} {vs : Array Value} (s : Sim w0 m h w) (hv : VRs m args vs.toList) (hbd : AV.bdds h.length args) :
 SA w0 none none fn.ntmps h.length ⟨w.heap.size,[]⟩ m (eO args 0) h { tmps := vs ++ Array.replicate (fn.ntmps - vs.size) undef,defers := [] } w := by
 have hlen := cD hv
 simp at hlen
 refine ⟨s,fun t => ?_,by simp; omega,Nat.le_refl _,⟨[],by simp,rfl,by simp⟩,rfl,fun i hi => (by cases hi),Nat.le_refl _⟩
 rw [uI]
 simp only [Nat.zero_le,if_true,Nat.sub_zero]
 cases ht : args[t]? with
 | none => exact ⟨by simp [VR],trivial⟩
 | some x =>
  obtain ⟨y,hy,hvy⟩ := (cV.1 hv).2 t x ht
  have htl := aI ht
  refine ⟨?_,bV.1 hbd x (List.mem_of_getElem? ht)⟩
  rw [Array.getD_eq_getD_getElem?,Array.getElem?_append_left (by omega)]
  simp at hy
  simpa [hy] using hvy
theorem FR.stepS {m m' : Emb} {h' : Heap} {w w' : World} {tmps : Array Value} (hf : FR m h.length fr tmps) (s : bO w0 m m' h h' w w') : FR m' h'.length fr tmps :=
 fun t => ⟨fY s.ext _ _ (hf t).2 (hf t).1,AV.bdd_mono s.le _ (hf t).2⟩
theorem iN.weak {m m' : Emb} {h' : Heap} {w w' : World} {Z' : Nat} (s : iN Z w0 m m' h h' w w') (hz : Z' ≤ Z) : iN Z' w0 m m' h h' w w' := ⟨s.sim,s.ext.mono hz,s.mods,Nat.le_trans hz s.le,s.roots⟩
theorem vA {rs : List RV} {Q : AV → Heap → Prop} {X : List PanicEntry → Heap → Prop} {fn : Func} (hrs : fn.results.toList.mapM (crv P) = some rs) {h0 : Heap} {m0 m' : Emb} {fr' : Fr} {h' : Heap} {w00 w' : World} {a' : Act}
 (h00 : w0.heap.size ≤ w00.heap.size) (st : bO w0 m0 m' h0 h' w00 w') (sa' : SA w0 none none nt Z ⟨w00.heap.size,[]⟩ m' fr' h' a' w') {e : Exit} (q : aAJ w0 rs Q X e fr' h') : bodyPostM Fence.wide 0 P fn (lD w0 m0 h0 w00 Q X) e a' w' := by
 obtain ⟨qs,hnd,hdef,hqs⟩ := sa'.marks
 have fin : ∀ {u : FrameMode},u ≠ .run → (∀ w2,bO w0 m0 m' h0 h' w00 w2 → LeavesInM Fence.wide 0 P fn a'.tmps (lD w0 m0 h0 w00 Q X) [] u w2) → LeavesInM Fence.wide 0 P fn a'.tmps (lD w0 m0 h0 w00 Q X) a'.defers u w' := fun hu k => by
  rw [hdef]; exact lU hu h00 qs w' hnd st hqs fun w2 st2 _ => k w2 st2
 have hret : (∃ v,iG w0 rs fr' h' = some v ∧ Q v h') → LeavesInM Fence.wide 0 P fn a'.tmps (lD w0 m0 h0 w00 Q X) a'.defers .returning w' := fun ⟨v,hres,hq⟩ => by
  refine fin (by simp) fun w2 st2 => ?_
  obtain ⟨v',h1,h2,h3⟩ := gY hrs st2.sim sa'.frame hres
  exact ⟨v',h1,.inl ⟨v',rfl,m',v,h',st2,h2,h3,hq⟩⟩
 cases e with
 | normal => exact hret q
 | ret => exact hret q
 | panic ch => exact fin (by simp) fun w2 st2 => .inr ⟨ch,rfl,m',h',st2,q⟩
 | exit id => exact q.elim
 | goto l => exact q.elim
 | outgrown => exact q.elim
def EvD (P : Program) (w0 : World) (nt : Nat) (rs : List RV) (h0 : Heap) (Q : AV → Heap → Prop) (X : List PanicEntry → Heap → Prop) (mc : MC) (fr : Fr) (h : Heap) : Prop :=
 ∀ c,aY P nt c = some mc → ∀ fn : Func,fn.results.toList.mapM (crv P) = some rs → ∀ m0 w00 m a w,w0.heap.size ≤ w00.heap.size → iN h0.length w0 m0 m h0 h w00 w → SA w0 none none nt h0.length ⟨w00.heap.size,[]⟩ m fr h a w →
  c.wpIn Fence.wide 0 P (bodyPostM Fence.wide 0 P fn (lD w0 m0 h0 w00 Q X)) a w
section
variable {rs : List RV} {h0 : Heap} {Q : AV → Heap → Prop} {X : List PanicEntry → Heap → Prop}
theorem EvD_of {mc : MC} (e : EvM P w0 none nt h0.length mc fr h (aAJ w0 rs Q X)) : EvD P w0 nt rs h0 Q X mc fr h := fun c hc fn hrs m0 w00 m a w h00 st sa =>
 wpIn_mono (e c hc m a w ⟨w00.heap.size,[]⟩ none sa) fun _ _ _ ⟨_,_,_,stz,sa',q⟩ => vA hrs h00 (st.trans stz).toS sa' q
def dQ (P : Program) (w0 : World) (nt : Nat) (rs : List RV) (h0 : Heap) (Q : AV → Heap → Prop) (X : List PanicEntry → Heap → Prop) (y : MC) : Exit → Fr → Heap → Prop
 | .normal,fr,h => EvD P w0 nt rs h0 Q X y fr h
 | e,fr,h => aAJ w0 rs Q X e fr h
theorem aJZ {x y : MC} (e : EvM P w0 none nt h0.length x fr h (dQ P w0 nt rs h0 Q X y)) : EvD P w0 nt rs h0 Q X (.seq x y) fr h := fun c hc fn hrs m0 w00 m a w h00 st sa => by
 obtain ⟨cx,cy,rfl,h1,h2⟩ := nU hc
 refine wpIn_seq (wpIn_mono (e cx h1 m a w ⟨w00.heap.size,[]⟩ none sa) fun e a' w' ⟨m',fr',h',stz,sa',q⟩ => ?_)
 cases e with
 | normal => exact q cy h2 fn hrs m0 w00 m' a' w' h00 (st.trans stz) sa'
 | ret => exact vA (e := .ret) hrs h00 (st.trans stz).toS sa' q
 | panic ch => exact vA (e := .panic ch) hrs h00 (st.trans stz).toS sa' q
 | exit id => exact q.elim
 | goto l => exact q.elim
 | outgrown => exact q.elim
end
theorem aA8 {f : FuncId} {mf : MF} (hf : bF P f = some mf) (hb : aG P f = true) {args : List AV} (hn : args.length ≤ mf.nt) {Q : AV → Heap → Prop} {X : List PanicEntry → Heap → Prop}
 (e : HB h → AV.bdds h.length args → EvD P w0 mf.nt mf.res h Q X mf.body (eO args 0) h) : iF P w0 f args h Q X := by
 refine ⟨hb,fun m w vs s hv hbd => ?_⟩
 simp only [bF,Option.bind_eq_some_iff,Option.map_eq_some_iff] at hf
 obtain ⟨fn,hfn,c,hc,rs,hrs,b,hcb,rfl⟩ := hf
 simp only at e hn
 refine callsIn_of_wp_marks hfn hc trivial ?_
 have sa := aCv (mf := ⟨fn.ntmps,rs,b⟩) rfl hn s hv hbd
 exact e (fun i b hi => (s.at_ i b hi).2.2) hbd c hcb fn hrs m w m _ w s.size ((bO.refl s).toZ (Nat.le_refl _)) sa
theorem aA7 {f : FuncId} {mf : MF} (hf : bF P f = some mf) (hb : aG P f = true) {args : List AV} (hn : args.length ≤ mf.nt) {Q : AV → Heap → Prop} {X : List PanicEntry → Heap → Prop}
 (e : HB h → AV.bdds h.length args → EvM P w0 none mf.nt h.length mf.body (eO args 0) h (aAJ w0 mf.res Q X)) : iF P w0 f args h Q X :=
 aA8 hf hb hn fun h1 h2 => EvD_of (e h1 h2)
theorem aEm (hm : P.follows .mixedOrders = true) {f : FuncId} {mf : SF} (hf : bF P f = some mf.er) (hb : aG P f = true) (g : mf.body.good = true) {args : List AV} (hn : args.length ≤ mf.nt) {Q : AV → Heap → Prop} {X : List PanicEntry → Heap → Prop}
 (e : HB h → AV.bdds h.length args → sx P w0 none mf.nt h.length mf.body (eO args 0) (h ++ []) (aAJ w0 mf.res Q X)) : iF P w0 f args h Q X :=
 aA7 (mf := mf.er) hf hb hn fun h1 h2 => dF (nt := mf.nt) hm mf.body g (by have := e h1 h2; rw [List.append_nil] at this; exact this)
def iD (P : Program) (w0 : World) (f : FuncId) (args : List AV) (h : Heap) (o : Option AV) (v : AV) (h1 : Heap) : Prop :=
 iF P w0 f args h (fun v' h' => o = none ∧ v' = v ∧ h' = h1) (fun ch h' => ∃ x,o = some x ∧ ch = pan x ∧ h' = h1)
def aGL (P : Program) (w0 : World) (fv : AV) (args : List AV) (h : Heap) (o : Option AV) (v : AV) (h1 : Heap) : Prop :=
 fL P w0 fv args h (fun v' h' => o = none ∧ v' = v ∧ h' = h1) (fun ch h' => ∃ x,o = some x ∧ ch = pan x ∧ h' = h1)
theorem iD.v {f : FuncId} {first args capt : List AV} {o : Option AV} {v : AV} {h1 : Heap} (c : iD P w0 f (first ++ args ++ capt) h o v h1) : aGL P w0 (.fn (.func f) first capt) args h o v h1 := c
theorem pP {r : Option Nat} {Q : Exit → Fr → Heap → Prop} {fv : AV} {as : List AV} {d : Option Nat} {l : List MIx} {k : List It} {o : Option AV} {v : AV} {h1 : Heap} (c : aGL P w0 fv as h o v h1)
 (e1 : o = none → rv P w0 r nt Z Q l k (fr.put d v) h1) (e2 : ∀ x,o = some x → un P w0 r nt Z Q (.panic (pan x)) k fr h1) : rcE P w0 r nt Z Q fv as d l k fr h :=
 fL.mono c (fun _ _ ⟨h1,h2,h3⟩ => by subst h2; subst h3; exact e1 h1) (fun _ _ ⟨x,h1,h2,h3⟩ => by subst h2; subst h3; exact e2 x h1)
theorem aCe {r : Option Nat} {Q : Exit → Fr → Heap → Prop} {x : AV} {k : List It} (hx : qA x = true) (e : un P w0 r nt Z Q (.panic (pan x)) k fr h) : rcP P w0 r nt Z Q x k fr h := ⟨hx,e⟩
theorem aA6 {f : FuncId} {args : List AV} {Q : AV → Heap → Prop} {X : List PanicEntry → Heap → Prop}
 (e : iF P w0 f args h (fun v h' => ∃ h1 k,h' = h1 ++ k ∧ h.length ≤ h1.length ∧ HB h1 ∧ v.bdd h1.length ∧ Q v h1) (fun ch h' => ∃ h1 k,h' = h1 ++ k ∧ h.length ≤ h1.length ∧ HB h1 ∧ X ch h1)) : iF P w0 f args h Q X := by
 refine ⟨e.1,fun m w vs s hv hb => (e.2 m w vs s hv hb).mono fun en w' p => ?_⟩
 rcases p with ⟨v',e1,m',v,h',st,hvr,_,h1,k,hh,hle,hhb,hbd,hk⟩ | ⟨ch,e1,m',h',st,h1,k,hh,hle,hhb,hk⟩
 · subst hh
   exact .inl ⟨v',e1,m',v,h1,st.drop hle hhb,hvr,hbd,hk⟩
 · subst hh
   exact .inr ⟨ch,e1,m',h1,st.drop hle hhb,hk⟩
def pK (w0 : World) (rs : List RV) (h1 : Heap) (o : Option AV) (v : AV) : Exit → Fr → Heap → Prop
 | .normal,fr,h' => o = none ∧ iG w0 rs fr h' = some v ∧ ∃ k,h' = h1 ++ k
 | .ret,fr,h' => o = none ∧ iG w0 rs fr h' = some v ∧ ∃ k,h' = h1 ++ k
 | .panic ch,_,h' => (∃ x,o = some x ∧ ch = pan x) ∧ ∃ k,h' = h1 ++ k
 | _,_,_ => False
theorem lM (hm : P.follows .mixedOrders = true) {f : FuncId} {mf : SF} (hf : bF P f = some mf.er) (hb : aG P f = true) (g : mf.body.good = true) {args : List AV} (hn : args.length ≤ mf.nt) {o : Option AV} {v : AV} {h1 : Heap}
 (hle : h.length ≤ h1.length) (hhb : HB h → HB h1) (hv : v.bdd h1.length) (e : HB h → AV.bdds h.length args → sx P w0 none mf.nt h.length mf.body (eO args 0) (h ++ []) (pK w0 mf.res h1 o v)) : iD P w0 f args h o v h1 := by
 refine aA6 (aEm hm hf hb g hn fun b1 b2 => iS _ (e b1 b2) fun e fr h' q => ?_)
 have : ∀ {fr : Fr} {h' : Heap},(o = none ∧ iG w0 mf.res fr h' = some v ∧ ∃ k,h' = h1 ++ k) → ∃ v',iG w0 mf.res fr h' = some v' ∧ ∃ h2 k,h' = h2 ++ k ∧ h.length ≤ h2.length ∧ HB h2 ∧ v'.bdd h2.length ∧ o = none ∧ v' = v ∧ h2 = h1 :=
  fun ⟨q0,q1,k,q2⟩ => ⟨v,q1,h1,k,q2,hle,hhb b1,hv,q0,rfl,rfl⟩
 cases e with
 | normal => exact this q
 | ret => exact this q
 | panic ch =>
  obtain ⟨q1,k,q2⟩ := q
  obtain ⟨x,q3,q4⟩ := q1
  exact ⟨h1,k,q2,hle,hhb b1,x,q3,q4,rfl⟩
 | _ => exact q.elim
def pD (P : Program) (w0 : World) (g : FuncId) (args : List AV) (h : Heap) (u : FrameMode) (Q : FrameMode → Heap → Prop) : Prop :=
 aG P g = true ∧ ∀ m w (vs : Array Value),Sim w0 m h w → VRs m args vs.toList → AV.bdds h.length args → CallsDIn Fence.wide 0 P g vs u w fun e u' w' => ∃ v',e = .returned v' ∧ ∃ m' h',bO w0 m m' h h' w w' ∧ Q u' h'
def aDX (w0 : World) (rs : List RV) (Q : AV → Heap → Prop) (X : List PanicEntry → Heap → Prop) (fr : Fr) (u : FrameMode) (h : Heap) : Prop :=
 match settle u with
 | .returning => ∃ v,iG w0 rs fr h = some v ∧ Q v h
 | .panicking ch => X ch h
 | .run => False
def defK (P : Program) (w0 : World) (rs : List RV) (g : FuncId) (capt : List AV) (Q : AV → Heap → Prop) (X : List PanicEntry → Heap → Prop) : Exit → Fr → Heap → Prop
 | .normal,fr,h => pD P w0 g capt h .returning (aDX w0 rs Q X fr)
 | .ret,fr,h => pD P w0 g capt h .returning (aDX w0 rs Q X fr)
 | .panic ch,fr,h => pD P w0 g capt h (.panicking ch) (aDX w0 rs Q X fr)
 | _,_,_ => False
theorem aAD {ops : Array Oper} {o : Oper} {d : Option Nat} {fo : Opd} {as : List Opd} (hx : dZ P nt ops o = some (.op d none (.defer fo as))) :
 d = o.dst ∧ sJ nt o.dst = true ∧ uZ ops o.guard = some none ∧ ∃ f args at',o.op = .defer { callee := .value f,args := args,argTypes := at' } ∧ cU f = some fo ∧ jX args = some as := by
 unfold dZ at hx
 split at hx
 · rename_i hd
   simp only [Option.bind_eq_some_iff] at hx
   obtain ⟨g,hg,hx⟩ := hx
   split at hx
   · simp only [Option.bind_eq_some_iff,Option.map_eq_some_iff] at hx
     obtain ⟨_,_,_,_,hx⟩ := hx
     cases hx
   · simp only [Option.map_eq_some_iff] at hx
     obtain ⟨mo,hmo,hx⟩ := hx
     simp only [MIx.op.injEq] at hx
     obtain ⟨rfl,rfl,rfl⟩ := hx
     refine ⟨rfl,hd,hg,?_⟩
     generalize o.op = op at hmo
     unfold cop at hmo
     split at hmo
     all_goals first
      | (simp only [Option.bind_eq_some_iff,Option.map_eq_some_iff,MOp.defer.injEq] at hmo; obtain ⟨f,h1,a,h2,rfl,rfl⟩ := hmo; exact ⟨_,_,_,rfl,h1,h2⟩)
      | (exfalso; repeat' first | (cases hmo; done) | (simp only [Option.bind_eq_some_iff,Option.map_eq_some_iff] at hmo) | (obtain ⟨_,_,hmo⟩ := hmo) | split at hmo)
 · cases hx
theorem aEl {rs : List RV} {h0 : Heap} {Q : AV → Heap → Prop} {X : List PanicEntry → Heap → Prop} {l : List MIx} {fo : Opd} {rest : MC}
 (e : vc P w0 l fr h fun fr1 h1 => ∃ g capt,fo.ev fr1 = .fn (.func g) [] capt ∧ EvM P w0 none nt h1.length rest fr1 h1 (defK P w0 rs g capt Q X)) : EvD P w0 nt rs h0 Q X (.seq (.reg (l ++ [.op none none (.defer fo [])])) rest) fr h := by
 intro c hc fn hrs m0 w00 m a w h00 st0 sa
 obtain ⟨cx,cy,rfl,hcx,hcy⟩ := nU hc
 refine wpIn_seq ?_
 obtain ⟨id,ops,rfl,hl⟩ := lJ hcx
 refine wpIn_region_list ?_
 obtain ⟨o1,o,o2,e0,h1,h2,h3⟩ := pX hl rfl
 rw [e0]
 refine pF (P := P) o1 l h1 sa e fun m1 fr1 g1 a1 w1 s1 sa1 k _ => ?_
 obtain ⟨g,capt,hfo,hrest⟩ := k
 obtain ⟨hdst,hdok,hgd,fc,args',at',hop,hfc,has⟩ := aAD h2
 simp only [wpListIn]
 rw [eI hgd sa1.frame (b := true) rfl]
 have hargs0 : args' = #[] := by
  simp only [jX] at has
  cases hq : args'.toList with
  | nil => exact Array.toList_eq_nil_iff.1 hq
  | cons x xs =>
   rw [hq] at has
   simp only [List.mapM_cons,Option.bind_eq_bind,Option.bind_eq_some_iff,Option.pure_def,Option.some.injEq] at has
   obtain ⟨_,_,_,_,hh⟩ := has
   cases hh
 subst hargs0
 obtain ⟨f1,f2⟩ := aN sa1.frame hfc
 rw [hfo] at f1 f2
 simp only [VR] at f1
 obtain ⟨p,q,ev1,p1,q1⟩ := f1
 have hp0 : p = #[] := by
  simp only [VRs] at p1
  exact Array.toList_eq_nil_iff.1 p1
 subst hp0
 have hrun : (execOp a1.eval o).run P w1 = .ok (.defer { target := .fn (.func g) q,args := #[] }) w1 := by
  simp only [execOp,hop,resolve,ev1,Deferred.ofValue,Sem.run_bind,Sem.run_pure,Result.andThen_ok]
  simp
 have hsem : o.semAt (Wd none).round a1.eval = execOp a1.eval o := rfl
 refine ⟨fun _ _ => trivial,?_⟩
 rw [hsem,hrun]
 obtain rfl : o2 = [] := by
  cases o2 with
  | nil => rfl
  | cons x xs =>
   simp only [List.mapM_cons,Option.bind_eq_bind,Option.bind_eq_some_iff,Option.pure_def,Option.some.injEq] at h3
   obtain ⟨_,_,_,_,hh⟩ := h3
   cases hh
 have hdn : o.dst = none := hdst.symm
 rw [Oper.uponIn_defer,hdn]
 obtain ⟨rs1,hnd1,hdef1,hrs1⟩ := sa1.marks
 rw [List.append_nil] at hdef1
 show Code.wpIn Fence.wide 0 P cy (bodyPostM Fence.wide 0 P fn (lD w0 m0 h0 w00 Q X)) { a1 with defers := { target := .fn (.func g) q,args := #[] } :: a1.defers } w1
 have sa2 : SA w0 none none nt g1.length ⟨w1.heap.size,{ target := .fn (.func g) q,args := #[] } :: rs1.map kY⟩ m1 fr1 g1 { a1 with defers := { target := .fn (.func g) q,args := #[] } :: a1.defers } w1 :=
  ⟨sa1.sim,sa1.frame,sa1.size,Nat.le_refl _,⟨[],by simp,by simp [hdef1],by simp⟩,rfl,fun i hi => (by cases hi),Nat.le_refl _⟩
 have hlt1 : ∀ c ∈ rs1,c < w1.heap.size := fun c hc => by
  obtain ⟨_,h3',_⟩ := hrs1 c hc
  rcases Nat.lt_or_ge c w1.heap.size with hl | hl
  · exact hl
  · rw [Array.getElem?_eq_none hl] at h3'; cases h3'
 refine wpIn_mono (hrest cy hcy m1 _ w1 ⟨w1.heap.size,{ target := .fn (.func g) q,args := #[] } :: rs1.map kY⟩ none sa2) fun e a' w' ⟨m',fr',h',stz,sa',qk⟩ => ?_
 have st : bO w0 m0 m' h0 h' w00 w' := (st0.trans (s1.trans (stz.weak (Z' := h0.length) sa1.hz))).toS
 obtain ⟨qs,hnd,hdef,hqs⟩ := sa'.marks
 have hqs' : ∀ c ∈ qs,w00.heap.size ≤ c ∧ w'.heap[c]? = some (.deferred (some [])) ∧ ∀ (i : Nat) b,h'[i]? = some (some b) → m'.blk i ≠ c := fun c hc => by
  obtain ⟨k1,k2,k3⟩ := hqs c hc
  exact ⟨Nat.le_trans sa1.low k1,k2,k3⟩
 have hr1 : ∀ c ∈ rs1,c ∉ qs ∧ w'.heap[c]? = some (.deferred (some [])) ∧ ∀ (i : Nat) b,h'[i]? = some (some b) → m'.blk i ≠ c := fun c hc => by
  obtain ⟨k1,k2,k3⟩ := hrs1 c hc
  have hc1 := hlt1 c hc
  refine ⟨fun hq => by have := (hqs c hq).1; simp only at this; omega,by rw [stz.mods.same c hc1 k3]; exact k2,fun i b hi e => ?_⟩
  obtain ⟨j,b2,hj,e'⟩ := stz.roots i b hi (by omega)
  exact k3 j b2 hj (e'.trans e)
 have hq2 : VRs m' capt q.toList := VRs_ext stz.ext _ _ f2.2 q1
 have hb2 : AV.bdds h'.length capt := AV.bdds_mono stz.le _ f2.2
 have fin : ∀ {u : FrameMode},u ≠ .run → pD P w0 g capt h' u (aDX w0 rs Q X fr') → LeavesInM Fence.wide 0 P fn a'.tmps (lD w0 m0 h0 w00 Q X) a'.defers u w' := fun {u} hu k => by
  rw [hdef]
  refine lU hu h00 qs w' hnd st hqs' fun w2 st2 hsame => ?_
  refine ⟨hu,.inr ⟨fun hh => by simp [Fence.wide] at hh,.func g,q,g,q,rfl,?_,fun _ _ => trivial,?_⟩⟩
  · have := iB (P := P) (w := w2) (vs := q) k.1
    simpa [invoke] using this
  · refine CallsDIn.mono (k.2 m' w2 q st2.sim hq2 hb2) fun e u' w3 ⟨v',e1,m3,h3,st3,hk⟩ => ?_
    subst e1
    have st4 := st2.trans st3
    have hf3 : FR m3 h3.length fr' a'.tmps := FR.stepS sa'.frame st3
    have hr3 : ∀ c ∈ rs1,w00.heap.size ≤ c ∧ w3.heap[c]? = some (.deferred (some [])) ∧ ∀ (i : Nat) b,h3[i]? = some (some b) → m3.blk i ≠ c := fun c hc => by
     obtain ⟨k1,k2,k3⟩ := hr1 c hc
     have hw2 : w2.heap[c]? = some (.deferred (some [])) := by rw [hsame c k1]; exact k2
     have hc2 : c < w2.heap.size := by
      rcases Nat.lt_or_ge c w2.heap.size with hl | hl
      · exact hl
      · rw [Array.getElem?_eq_none hl] at hw2; cases hw2
     refine ⟨(hrs1 c hc).1,by rw [st3.mods.same c hc2 k3]; exact hw2,fun i b hi e => ?_⟩
     obtain ⟨j,b2,hj,e'⟩ := st3.roots i b hi (by omega)
     exact k3 j b2 hj (e'.trans e)
    unfold aDX at hk
    show LeavesInM Fence.wide 0 P fn a'.tmps (lD w0 m0 h0 w00 Q X) (rs1.map kY) (settle u') w3
    generalize settle u' = u2 at hk
    have := lU (P := P) (fn := fn) (tmps := a'.tmps) (R := lD w0 m0 h0 w00 Q X) (ds := []) (u := u2) (by rintro rfl; exact hk) h00 rs1 w3 hnd1 st4 hr3 fun w5 st5 _ => by
     cases u2 with
     | run => exact hk.elim
     | returning =>
      obtain ⟨v,hres,hq⟩ := hk
      obtain ⟨v2,r1,r2,r3⟩ := gY hrs st5.sim hf3 hres
      exact ⟨v2,r1,.inl ⟨v2,rfl,m3,v,h3,st5,r2,r3,hq⟩⟩
     | panicking ch => exact .inr ⟨ch,rfl,m3,h3,st5,hk⟩
    rwa [List.append_nil] at this
 cases e with
 | normal => exact fin (by simp) qk
 | ret => exact fin (by simp) qk
 | panic ch => exact fin (by simp) qk
 | exit id => exact qk.elim
 | goto l => exact qk.elim
 | outgrown => exact qk.elim
theorem EvD_sx (hm : P.follows .mixedOrders = true) {rs : List RV} {h0 : Heap} {Q : AV → Heap → Prop} {X : List PanicEntry → Heap → Prop} {x y : SC} (g : x.good = true) (e : sx P w0 none nt h0.length x fr h (dQ P w0 nt rs h0 Q X y.er)) : EvD P w0 nt rs h0 Q X (SC.seq x y).er fr h :=
 aJZ (dF hm x g e)
theorem aJ0 (hm : P.follows .mixedOrders = true) {rs : List RV} {h0 : Heap} {Q : AV → Heap → Prop} {X : List PanicEntry → Heap → Prop} {l : List MIx} {fo : Opd} {y : SC} (g : y.good = true)
 (e : vc P w0 l fr h fun fr1 h1 => ∃ g capt,fo.ev fr1 = .fn (.func g) [] capt ∧ sx P w0 none nt h1.length y fr1 h1 (defK P w0 rs g capt Q X)) : EvD P w0 nt rs h0 Q X (SC.seq (.reg (l ++ [.op none none (.defer fo [])])) y).er fr h :=
 aEl (jG e fun _ _ ⟨a,b,c,d⟩ => ⟨a,b,c,dF hm y g d⟩)
def vD (P : Program) : List Deferred → World → (World → Prop) → Prop
 | [],w,K => K w
 | d :: ds,w,K => ∃ r w',d.target = .collected r ∧ (Instr.takeDeferred r).run P w = .ok [] w' ∧ vD P ds w' K
theorem rZ {F : Fence} {n : Nat} : ∀ (ds : List Deferred) (w : World) (fr : Frame) (cs : List Frame) {K : World → Prop},fr.mode ≠ .run → fr.defers = ds → F.fn fr.fn → F.room (cs.length + 1 + n) → vD P ds w K →
 ∃ w',K w' ∧ StepsIn (Machine.fenced P F) P (lone fr cs w) (lone { fr with defers := [] } cs w')
 | [],w,fr,cs,K,_,hd,_,_,k => ⟨w,k,by
  have : ({ fr with defers := [] } : Frame) = fr := by rw [← hd]
  rw [this]; exact StepsIn.refl _⟩
 | d :: ds,w,fr,cs,K,hm,hd,hF,hr,⟨r,w',htar,htake,k⟩ => by
  have h1 := step_collected (cs := cs) hm hd htar htake
  have i1 : (lone fr cs w).fenced P F := fenced_out hF hr hm hd (fun g hg => by rw [htar] at hg; simp [Target.leads] at hg)
  obtain ⟨w2,k2,s2⟩ := rZ (n := n) ds w' { fr with defers := [] ++ ds } cs hm rfl hF hr k
  exact ⟨w2,k2,StepsIn.trans (.one i1 h1) s2⟩
theorem aDD {m m' : Emb} {h h' : Heap} {w : World} (h0 : w0.heap.size ≤ w.heap.size) :
 ∀ (qs : List Nat) (w1 : World),qs.Nodup → bO w0 m m' h h' w w1 → (∀ q ∈ qs,w.heap.size ≤ q ∧ w1.heap[q]? = some (.deferred (some [])) ∧ ∀ (i : Nat) b,h'[i]? = some (some b) → m'.blk i ≠ q) → vD P (qs.map kY) w1 fun w2 => bO w0 m m' h h' w w2 := by
 intro qs
 induction qs with
 | nil => intro w1 _ st1 _; exact st1
 | cons q qs ih =>
  intro w1 hnd st1 hall
  obtain ⟨g1,g2,g3⟩ := hall q List.mem_cons_self
  have hlt : q < w1.heap.size := by
   rcases Nat.lt_or_ge q w1.heap.size with hl | hl
   · exact hl
   · rw [Array.getElem?_eq_none hl] at g2; cases g2
  simp only [List.nodup_cons] at hnd
  refine ⟨q,dM w1 q (.deferred none),rfl,?_,ih _ hnd.2 (st1.aside g1 g3 h0) (fun q' hq' => ?_)⟩
  · have e1 := dG (P := P) g2 (by simp)
    have e2 := fN (P := P) (.deferred none) g2 (by simp)
    simp only [Instr.takeDeferred,Sem.run_bind,e1,Result.andThen_ok,e2,Sem.run_pure]
    rfl
  · obtain ⟨k1,k2,k3⟩ := hall q' (List.mem_cons_of_mem _ hq')
    refine ⟨k1,?_,k3⟩
    have hne : q' ≠ q := fun e => by rw [e] at hq'; exact hnd.1 hq'
    rw [fG hne]
    exact k2
theorem qS {f : FuncId} {mf : MF} (hf : bF P f = some mf) (hb : aG P f = true) {args : List AV} (hn : args.length ≤ mf.nt) {d : Option Nat} {rest : MC} (hbody : mf.body = .seq (.reg [.op d none .recov]) rest)
 {u u' : FrameMode} {x : AV} (hu : (u = .returning ∧ u' = .returning ∧ x = .nilI) ∨ (u = .panicking (pan x) ∧ u' = .panicking [{ v := x.val,recovered := true }] ∧ x.clo = true)) {Q : FrameMode → Heap → Prop}
 (e : HB h → AV.bdds h.length args → EvM P w0 none mf.nt h.length rest ((eO args 0).put d x) h fun e fr' h' => (e = .normal ∨ e = .ret) ∧ (∃ v,iG w0 mf.res fr' h' = some v) ∧ Q u' h') : pD P w0 f args h u Q := by
 refine ⟨hb,fun m w vs s hv hbd => ⟨trivial,fun c₀ cs hc₀ hroom => ?_⟩⟩
 simp only [bF,Option.bind_eq_some_iff,Option.map_eq_some_iff] at hf
 obtain ⟨fn,hfn,c,hc,rs,hrs,b,hcb,rfl⟩ := hf
 simp only at e hn hbody
 subst hbody
 have sa := aCv (mf := ⟨fn.ntmps,rs,.seq (.reg [.op d none .recov]) rest⟩) rfl hn s hv hbd
 obtain ⟨cx,cy,rfl,hcx,hcy⟩ := nU hcb
 obtain ⟨id,ops,rfl,hl⟩ := lJ hcx
 have hsz : ops.toList.length = 1 := by have := (qY hl).1; simpa using this
 obtain ⟨o,ho⟩ : ∃ o,ops.toList = [o] := List.length_eq_one_iff.1 hsz
 have ho' : ops = #[o] := Array.ext' ho
 rw [ho] at hl
 simp only [List.mapM_cons,List.mapM_nil,Option.bind_eq_bind,Option.bind_eq_some_iff,Option.pure_def,Option.some.injEq,List.cons.injEq] at hl
 obtain ⟨z,hz,_,rfl,rfl,_⟩ := hl
 obtain ⟨hdst,hdok,hgd,at',as',hop⟩ : d = o.dst ∧ sJ fn.ntmps o.dst = true ∧ uZ ops o.guard = some none ∧ ∃ as' at',o.op = .call { callee := .builtin .recover,args := as',argTypes := at' } := by
  unfold dZ at hz
  split at hz
  · rename_i hd
    simp only [Option.bind_eq_some_iff] at hz
    obtain ⟨g,hg,hx⟩ := hz
    split at hx
    · simp only [Option.bind_eq_some_iff,Option.map_eq_some_iff] at hx
      obtain ⟨_,_,_,_,hx⟩ := hx
      cases hx
    · simp only [Option.map_eq_some_iff] at hx
      obtain ⟨mo,hmo,hx⟩ := hx
      simp only [MIx.op.injEq] at hx
      obtain ⟨rfl,rfl,rfl⟩ := hx
      refine ⟨rfl,hd,hg,?_⟩
      generalize o.op = op at hmo
      unfold cop at hmo
      split at hmo
      all_goals first
       | (exfalso; (repeat' first | (cases hmo; done) | (simp only [Option.bind_eq_some_iff,Option.map_eq_some_iff] at hmo) | (obtain ⟨_,_,hmo⟩ := hmo) | split at hmo); done)
       | skip
      rename_i bb args3 at3
      split at hmo
      all_goals first
       | (exact ⟨_,_,rfl⟩)
       | (exfalso; (repeat' first | (cases hmo; done) | (simp only [Option.bind_eq_some_iff,Option.map_eq_some_iff] at hmo) | (obtain ⟨_,_,hmo⟩ := hmo) | split at hmo); done)
  · cases hz
 subst ho'
 let a0 : Act := { tmps := vs ++ Array.replicate (fn.ntmps - vs.size) undef,defers := [] }
 let Qf : Exit → Act → List Frame → World → Prop := fun e a' cs' w' => ∃ m' fr' h',cs' = { c₀ with mode := u' } :: cs ∧ iN h.length w0 m m' h h' w w' ∧ SA w0 none none fn.ntmps h.length ⟨w.heap.size,[]⟩ m' fr' h' a' w' ∧
  (e = .normal ∨ e = .ret) ∧ (∃ v,iG w0 rs fr' h' = some v) ∧ Q u' h'
 have hrest : ∀ v : Value,VR m x v → x.bdd h.length → cy.wpIn Fence.wide 0 P (fun e a' w' => Qf e a' ({ c₀ with mode := u' } :: cs) w') (a0.put o.dst v) w := fun v hv1 hv2 => by
  have sa1 : SA w0 none none fn.ntmps h.length ⟨w.heap.size,[]⟩ m ((eO args 0).put o.dst x) h (a0.put o.dst v) w := sa.put hdok (.refl s) hv1 hv2
  rw [hdst] at e
  exact wpIn_mono (e (fun i b hi => (s.at_ i b hi).2.2) hbd cy hcy m _ w ⟨w.heap.size,[]⟩ none sa1) fun e a' w' ⟨m',fr',h',stz,sa',q⟩ => ⟨m',fr',h',rfl,stz,sa',q⟩
 have main : (Code.seq (.region id #[o] false) cy).wpSIn Fence.wide 0 P Qf a0 (c₀ :: cs) w := by
  refine wpSIn_seq (wpSIn_region ?_)
  have hrun : (execOp a0.eval o).run P w = .ok .recover w := by simp [execOp,hop,resolve,invoke,builtin]
  have hwant : Region.wanted o (yielded #[o] a0.tmps) = true := eI hgd sa.frame (b := true) rfl
  show wpOpsSIn Fence.wide 0 P #[o] _ [0] a0 (c₀ :: cs) w
  have h0 : (#[o] : Array Oper)[0]? = some o := rfl
  simp only [wpOpsSIn,h0,hwant,if_true,hrun]
  refine ⟨fun _ _ => trivial,?_⟩
  rcases hu with ⟨rfl,rfl,rfl⟩ | ⟨rfl,rfl,hx⟩
  · have hr : recoverD (c₀ :: cs) = none := by simp [recoverD,hc₀]
    have hcc : ({ c₀ with mode := .returning } : Frame) = c₀ := by rw [← hc₀]
    have := wpSIn_of_wpIn (F := Fence.wide) (n := 0) rfl (hrest .nilIface (by simp [VR]) trivial)
    rw [hcc] at this
    simp only [hr]
    exact this
  · obtain ⟨k1,k2⟩ := AV.clo_spec x hx m h.length
    have hr : recoverD (c₀ :: cs) = some (x.val,{ c₀ with mode := .panicking [{ v := x.val,recovered := true }] } :: cs) := by simp [recoverD,hc₀,pan]
    simp only [hr]
    exact wpSIn_of_wpIn (F := Fence.wide) (n := 0) rfl (hrest x.val ((k1 _).2 rfl) k2)
 let b : Frame := { (default : Frame) with fn := f,kind := .deferred,roundOf := none }
 have henter : Frame.enter P f vs .deferred = b.atR a0 [.code (.seq (.region id #[o] false) cy)] := by
  simp [Frame.enter,Frame.atR,hfn,hc,b,a0]
 obtain ⟨e,a',cs',w',hl',⟨m',fr',h',rfl,stz,sa',he,⟨v,hres⟩,hq⟩,harr⟩ := main b [] rfl rfl trivial hroom
 rw [← henter] at harr
 have st := stz.toS
 obtain ⟨qs,hnd,hdef,hqs⟩ := sa'.marks
 rw [List.append_nil] at hdef
 have hmo := aDD (P := P) s.size qs w' hnd st hqs
 rw [← hdef] at hmo
 have hend : ∀ todo,StepsIn (Machine.fenced P Fence.wide) P (lone (Frame.enter P f vs .deferred) (c₀ :: cs) w) (lone { b.atR a' todo with mode := .returning } ({ c₀ with mode := u' } :: cs) w') →
  ∃ e u2 w2 fr2,(∃ v',e = .returned v' ∧ ∃ m' h',bO w0 m m' h h' w w2 ∧ Q u2 h') ∧ ComesIn (Machine.fenced P Fence.wide) P (lone (Frame.enter P f vs .deferred) (c₀ :: cs) w) (lone fr2 ({ c₀ with mode := u2 } :: cs) w2) e ∧ fr2.kind = .deferred ∧ fr2.fn = f ∧ fr2.going P w2 e := fun todo hs => by
  obtain ⟨w2,st2,s2⟩ := rZ (F := Fence.wide) (n := 0) a'.defers w' { b.atR a' todo with mode := .returning } ({ c₀ with mode := u' } :: cs) (by simp) rfl trivial hroom hmo
  obtain ⟨v',r1,r2,r3⟩ := gY hrs st2.sim sa'.frame hres
  exact ⟨.returned v',u',w2,_,⟨v',rfl,m',h',st2,hq⟩,StepsIn.trans hs s2,rfl,rfl,rfl,rfl,fn,hfn,r1⟩
 rcases he with rfl | rfl
 · exact hend [] (StepsIn.trans harr (.one (fenced_calm (fr := b.atR a' []) trivial hroom rfl) (stepR_end rfl)))
 · obtain ⟨todo,hs⟩ := harr.1 rfl
   exact hend todo hs
end
end Go.Proofs.Ab
namespace Go.Proofs.Ab
open Go
theorem uC {ms : List Nat} {H : Heap} {c : Nat} (h : c ∈ ms) (hc : c < H.length) : (msk ms H)[c]? = some none := by rw [tD _ _ _ hc,if_pos h]
theorem bI {ms : List Nat} {H : Heap} {c : Nat} (h : c ∉ ms) : (msk ms H)[c]? = H[c]? := by
 by_cases hc : c < H.length
 · rw [tD _ _ _ hc,if_neg h]
 · rw [List.getElem?_eq_none (by rw [fJ]; omega),List.getElem?_eq_none (by omega)]
theorem wJ {ms : List Nat} {A B : Heap} (hl : A.length ≤ B.length) (h : ∀ (i : Nat) b,i ∉ ms → A[i]? = some (some b) → B[i]? = some (some b)) : aC (msk ms A) (msk ms B) := by
 refine ⟨by rw [fJ,fJ]; exact hl,fun i b e => ?_⟩
 by_cases hi : i ∈ ms
 · by_cases hc : i < A.length
   · rw [uC hi hc] at e; cases e
   · rw [List.getElem?_eq_none (by rw [fJ]; omega)] at e; cases e
 · rw [bI hi] at e ⊢; exact h i b hi e
theorem jL {ms ns : List Nat} {A : Heap} (h : ∀ i ∈ ms,i ∈ ns) : aC (msk ns A) (msk ms A) := by
 refine ⟨by rw [fJ,fJ]; exact Nat.le_refl _,fun i b e => ?_⟩
 by_cases hi : i ∈ ns
 · by_cases hc : i < A.length
   · rw [uC hi hc] at e; cases e
   · rw [List.getElem?_eq_none (by rw [fJ]; omega)] at e; cases e
 · rw [bI hi] at e; rw [bI fun x => hi (h i x)]; exact e
theorem cK {ms : List Nat} {A : Heap} : aC (msk ms A) A := jL (ms := []) (fun i hi => by cases hi)
theorem xZ {ms : List Nat} {A : Heap} {i : Nat} {x : Option Blk} (h : i ∈ ms) : msk ms (A.set i x) = msk ms A := by
 refine List.ext_getElem? fun c => ?_
 by_cases hc : c < A.length
 · rw [tD _ _ _ (by simpa using hc),tD _ _ _ hc]
   split
   · rfl
   · rename_i hcm
     rw [List.getElem?_set_ne fun e => hcm (by rw [← e]; exact h)]
 · rw [List.getElem?_eq_none (by rw [fJ,List.length_set]; omega),List.getElem?_eq_none (by rw [fJ]; omega)]
theorem nR {ms : List Nat} {A L : Heap} : aC (msk ms A) (msk ms (A ++ L)) := wJ (by simp) fun i b _ e => aA e
structure Keep (C : List Nat) (A B : Heap) : Prop where
 le : A.length ≤ B.length
 at_ : ∀ (i : Nat) b,i ∉ C → A[i]? = some (some b) → B[i]? = some (some b)
theorem Keep.refl {C : List Nat} {A : Heap} : Keep C A A := ⟨Nat.le_refl _,fun _ _ _ e => e⟩
theorem Keep.trans {C : List Nat} {A B D : Heap} (s : Keep C A B) (t : Keep C B D) : Keep C A D := ⟨Nat.le_trans s.le t.le,fun i b hi e => t.at_ i b hi (s.at_ i b hi e)⟩
theorem Keep.more {C D : List Nat} {A B : Heap} (s : Keep C A B) (h : ∀ i ∈ C,i ∈ D) : Keep D A B := ⟨s.le,fun i b hi e => s.at_ i b (fun x => hi (h i x)) e⟩
theorem Keep.app {C : List Nat} {A B L : Heap} (s : Keep C A B) : Keep C A (B ++ L) := ⟨by rw [List.length_append]; have := s.le; omega,fun i b hi e => aA (s.at_ i b hi e)⟩
theorem aC.toK {C : List Nat} {A B : Heap} (s : aC A B) : Keep C A B := ⟨s.1,fun i b _ e => s.2 i b e⟩
theorem Keep.set {C : List Nat} {A B : Heap} (s : Keep C A B) {i : Nat} {x : Option Blk} (hi : i ∈ C ∨ A.length ≤ i) : Keep C A (B.set i x) :=
 ⟨by rw [List.length_set]; exact s.le,fun j c hj e => by
  have hne : i ≠ j := by
   rintro rfl
   rcases hi with h1 | h1
   · exact hj h1
   · have := aI e; omega
  rw [List.getElem?_set_ne hne]; exact s.at_ j c hj e⟩
theorem Keep.old {C D : List Nat} {A B : Heap} (s : Keep C A B) (h : ∀ i ∈ C,i ∈ D ∨ A.length ≤ i) : Keep D A B :=
 ⟨s.le,fun i b hi e => s.at_ i b (fun x => (h i x).elim hi fun y => by have := aI e; omega) e⟩
theorem Keep.msk {C ms : List Nat} {A B : Heap} (s : Keep C A B) (h : ∀ i ∈ C,i ∈ ms ∨ A.length ≤ i) : aC (msk ms A) (msk ms B) :=
 wJ s.le (s.old h).at_
theorem Keep.mskm {C ms ns : List Nat} {A B : Heap} (s : Keep C A B) (h : ∀ i ∈ C,i ∈ ms ∨ A.length ≤ i) (h2 : ∀ i ∈ ns,i ∈ ms ∨ A.length ≤ i) : aC (Ab.msk ms A) (Ab.msk ns B) := by
 refine ⟨by rw [fJ,fJ]; exact s.le,fun i b e => ?_⟩
 have hl : i < A.length := by have := aI e; rwa [fJ] at this
 have hm : i ∉ ms := fun hi => by rw [uC hi hl] at e; cases e
 rw [bI hm] at e
 rw [bI fun hi => (h2 i hi).elim hm fun hx => by omega]
 exact s.at_ i b (fun hi => (h i hi).elim hm fun hx => by omega) e
section
variable {P : Program} {w0 : World} {α : Type} {q : Nat} {C O : List Nat} {V : α → Heap → List AV → Prop} {g : List Nat → Prop} {K : Heap → Prop}
def fF (P : Program) (w0 : World) (q : Nat) (C : List Nat) (V : α → Heap → List AV → Prop) (g : List Nat → Prop) (K : Heap → Prop) : List α → List Nat → Heap → Prop
 | [],O,H => ∀ H2,Keep O H H2 → K H2
 | x :: r,O,H => ∀ H2 args O2,g O2 → Keep O H H2 → (∀ i ∈ O2,i ∈ O ∨ H.length ≤ i) → (∀ i ∈ O2,i < H2.length) → V x H2 args →
  aV P w0 q args H2 fun v H3 => Keep C H2 H3 ∧ ((v = .bool true ∧ fF P w0 q C V g K r O2 H3) ∨ (v = .bool false ∧ ∀ H4,Keep O2 H3 H4 → K H4))
theorem Keep.grow {O O2 : List Nat} {H H2 H3 : Heap} (t : Keep O H H2) (h : ∀ i ∈ O2,i ∈ O ∨ H.length ≤ i) (u : Keep O2 H2 H3) : Keep O H H3 :=
 ⟨Nat.le_trans t.le u.le,fun i b hi e => u.at_ i b (fun hx => (h i hx).elim hi fun hy => by have := aI e; omega) (t.at_ i b hi e)⟩
theorem fF.grow {l : List α} {H H2 : Heap} {O2 : List Nat} (a : fF P w0 q C V g K l O H) (t : Keep O H H2) (h : ∀ i ∈ O2,i ∈ O ∨ H.length ≤ i) : fF P w0 q C V g K l O2 H2 := by
 cases l with
 | nil => exact fun H3 t2 => a H3 (t.grow h t2)
 | cons x r => exact fun H3 args O3 g3 t2 h3 h4 hv => a H3 args O3 g3 (t.grow h t2) (fun i hi => (h3 i hi).elim (h i) fun hx => .inr (Nat.le_trans t.le hx)) h4 hv
theorem fF.keep {l : List α} {H H2 : Heap} (a : fF P w0 q C V g K l O H) (t : Keep O H H2) : fF P w0 q C V g K l O H2 := a.grow t fun i hi => .inl hi
def IterR (P : Program) (w0 : World) (q : Nat) (C : List Nat) (V : α → Heap → List AV → Prop) (g : List Nat → Prop) (K : Heap → Prop) (r : List α) (y : AV) (O : List Nat) (H : Heap) : Prop :=
 (y = .bool true ∧ fF P w0 q C V g K r O H) ∨ (y = .bool false ∧ ∀ H2,Keep O H H2 → K H2)
theorem IterR.grow {r : List α} {y : AV} {H H2 : Heap} {O2 : List Nat} (a : IterR P w0 q C V g K r y O H) (t : Keep O H H2) (h : ∀ i ∈ O2,i ∈ O ∨ H.length ≤ i) : IterR P w0 q C V g K r y O2 H2 := by
 rcases a with ⟨e,a⟩ | ⟨e,a⟩
 · exact .inl ⟨e,a.grow t h⟩
 · exact .inr ⟨e,fun H3 t2 => a H3 (t.grow h t2)⟩
theorem IterR.keep {r : List α} {y : AV} {H H2 : Heap} (a : IterR P w0 q C V g K r y O H) (t : Keep O H H2) : IterR P w0 q C V g K r y O H2 := a.grow t fun i hi => .inl hi
theorem fF.call {x : α} {r : List α} {H H2 : Heap} {args : List AV} (a : fF P w0 q C V g K (x :: r) O H) (t : Keep O H H2) (O2 : List Nat) (hg : g O2) (h1 : ∀ i ∈ O2,i ∈ O ∨ H.length ≤ i) (h2 : ∀ i ∈ O2,i < H2.length) (hv : V x H2 args) :
 aS P w0 (.yld q) args H2 fun v H3 => Keep C H2 H3 ∧ IterR P w0 q C V g K r v O2 H3 := aG6 (a H2 args O2 hg t h1 h2 hv)
end
end Go.Proofs.Ab
namespace Go.Proofs.Ab
open Go
def oI : AV → Bool
 | .int _ _ | .bool _ | .str _ | .nilP | .nilS | .nilM | .nilF | .nilI => true
 | _ => false
theorem aDH {v : AV} (h : oI v = true) (N : Nat) : v.bdd N := by cases v <;> simp_all [oI,AV.bdd]
theorem aFS {v : AV} (h : oI v = true) {m m' : Emb} {x : Value} (e : VR m v x) : VR m' v x := by cases v <;> simp_all [oI,VR]
def kp : MIx → Bool
 | .op _ _ o => mQ o
 | .call _ _ _ _ => false
def kq : MIx → Bool
 | .op _ _ (.load (.t _) _) => true
 | .op _ _ (.load (.k _) _) => false
 | .op _ _ o => mQ o
 | .call _ _ _ _ => false
def kz : MIx → Option (Nat × List AV × Option (Nat × Nat))
 | .op (some t) none (.alloc z) => if z.all oI then some (t,z,none) else none
 | .op (some t) none (.bslice es z len ps) => match iL (fH z len) (ps.map fun p => (p.1,p.2.1,p.2.2.ev [])) with
  | some c => if (ps.all fun p => p.2.2.rds.isEmpty) && (c.all oI && Nat.ble (len * es) c.length) then some (t,c,some (len,es)) else none
  | none => none
 | _ => none
def vz (p : Pl) : Option (Nat × Nat) → AV
 | none => .ptr p
 | some q => .sl p q.1 q.2 true
def kd : MIx → Bool
 | .op _ _ _ => true
 | .call _ _ _ _ => false
def kb : MIx → Bool
 | .op _ _ (.box _ _) | .op _ _ (.alloc _) | .op _ _ (.bslice _ _ _ _) => true
 | _ => false
def kg : MIx → Bool
 | .op _ _ (.app _ _ _ _ _) => true
 | x => kq x || kb x
section
variable {P : Program} {w0 : World} {fr : Fr} {h : Heap} {l : List MIx}
theorem bB {d : Option Nat} {v : AV} {t : Nat} (hd : ∀ u,d = some u → u ≠ t) : (fr.put d v).get t = fr.get t := by
 cases d with
 | none => rfl
 | some u =>
  simp only [Fr.put,Fr.get]
  cases hb : Nat.beq t u with
  | false => rfl
  | true => exact absurd (bD.1 hb).symm (hd u rfl)
structure Ap (x y : MIx) : Prop where
 a : ∀ t,x.dst = some t → t ∉ y.rds
 b : ∀ t,y.dst = some t → t ∉ x.rds
 c : ∀ t,x.dst = some t → y.dst ≠ some t
theorem Ap.symm {x y : MIx} (k : Ap x y) : Ap y x := ⟨k.b,k.a,fun t h1 h2 => k.c t h2 h1⟩
theorem FE.swap {x y : MIx} (k : Ap x y) (u v : AV) : FE ((fr.put x.dst u).put y.dst v) ((fr.put y.dst v).put x.dst u) := fun t => by
 cases hx : x.dst with
 | none => rfl
 | some a =>
  cases hy : y.dst with
  | none => rfl
  | some b =>
   have hab : a ≠ b := fun e => k.c a hx (by rw [hy,e])
   simp only [Fr.put,Fr.get]
   cases h1 : Nat.beq t a with
   | true =>
    have := bD.1 h1
    subst this
    have h2 : Nat.beq t b = false := by
     cases h2 : Nat.beq t b with
     | false => rfl
     | true => exact absurd (bD.1 h2) hab
    rw [h2]; rfl
   | false => rfl
theorem aE0 {x : MIx} {fr' : Fr} {K : AV → Heap → Prop} (e : FE fr fr') (k : opV P w0 x fr h K) : opV P w0 x fr' h K := eJ (fun t _ => (e t).symm) k
def aAG (P : Program) (w0 : World) (l : List MIx) (us : List Nat) (fr : Fr) (h : Heap) : Prop := ∀ u ∈ us,∃ x t,l[u]? = some x ∧ x.dst = some t ∧ opV P w0 x fr h fun v _ => v = fr.get t
theorem oY {us : List Nat} {fr fr' : Fr} (e : ∀ u ∈ us,∀ x,l[u]? = some x → ∀ t,(t ∈ x.rds ∨ x.dst = some t) → fr.get t = fr'.get t) (k : aAG P w0 l us fr h) : aAG P w0 l us fr' h := fun u hu => by
 obtain ⟨x,t,hx,ht,k⟩ := k u hu
 refine ⟨x,t,hx,ht,(eJ (fun s hs => e u hu x hx s (.inl hs)) k).mono fun v _ q => ?_⟩
 rw [q]; exact e u hu x hx t (.inr ht)
def wli (P : Program) (w0 : World) (l : List MIx) (R : Nat → List Nat) : List Nat → Fr → Heap → (Fr → Heap → Prop) → Prop
 | [],fr,h,K => K fr h
 | i :: is,fr,h,K => ∃ x,l[i]? = some x ∧ opV P w0 x fr h fun v h' => aAG P w0 l (R i) (fr.put x.dst v) h' ∧ wli P w0 l R is (fr.put x.dst v) h' K
theorem aBb {R : Nat → List Nat} {K : Fr → Heap → Prop} (hK : ∀ fr fr' h,FE fr fr' → K fr h → K fr' h) : ∀ {is : List Nat} {fr fr' : Fr} {h : Heap},FE fr fr' → wli P w0 l R is fr h K → wli P w0 l R is fr' h K
 | [],_,_,_,e,k => hK _ _ _ e k
 | i :: is,fr,fr',h,e,k => by
  obtain ⟨x,hx,k⟩ := k
  exact ⟨x,hx,aE0 e (k.mono fun v h' k => ⟨oY (fun _ _ _ _ t _ => ((e.put _ _) t).symm) k.1,aBb hK (e.put _ _) k.2⟩)⟩
theorem aFN {o : Opd} {n : Option Nat} {v : AV} {h' : Heap} (e : aop w0 (.load o n) fr h = some (v,h')) (L : Heap) : aop w0 (.load o n) fr (h ++ L) = some (v,h ++ L) := by
 simp only [aop] at e ⊢
 split at e
 · rename_i p hp
   simp only [Option.bind_eq_some_iff,Option.some.injEq,Prod.mk.injEq] at e ⊢
   obtain ⟨u,e1,rfl,rfl⟩ := e
   refine ⟨u,?_,rfl,trivial⟩
   cases n with
   | none => exact kV e1
   | some n =>
    simp only [rdv,Option.map_eq_some_iff] at e1 ⊢
    obtain ⟨c,e1,rfl⟩ := e1
    exact ⟨c,dB e1,rfl⟩
 · cases e
theorem rA {x : MIx} (hq : kq x = true) {K : AV → Heap → Prop} (e : opV P w0 x fr h K) :
 ∃ v,K v h ∧ (∀ (fr' : Fr) (L : Heap) (K' : AV → Heap → Prop),(∀ t ∈ x.rds,fr.get t = fr'.get t) → K' v (h ++ L) → opV P w0 x fr' (h ++ L) K') ∧
  (kp x = true → ∀ (fr' : Fr) (k : Heap) (K' : AV → Heap → Prop),(∀ t ∈ x.rds,fr.get t = fr'.get t) → K' v k → opV P w0 x fr' k K') := by
 cases x with
 | call d g f as => simp [kq] at hq
 | op d g o =>
  simp only [opV] at e
  have hg : ∀ {fr' : Fr},(∀ t ∈ (MIx.op d g o).rds,fr.get t = fr'.get t) → want fr' g = want fr g := fun ht => (jO fun t h1 => (ht t (by simp [MIx.rds,h1]))).symm
  have ho : ∀ {fr' : Fr} {k : Heap},(∀ t ∈ (MIx.op d g o).rds,fr.get t = fr'.get t) → aop w0 o fr' k = aop w0 o fr k := fun ht => (nV fun t h1 => (ht t (by simp [MIx.rds,h1]))).symm
  split at e
  · rename_i hw
    obtain ⟨v,h',e1,e2⟩ := e
    cases hp : mQ o with
    | true =>
     have := lL (aBu hp) e1
     subst this
     have key : ∀ (fr' : Fr) (k : Heap) (K' : AV → Heap → Prop),(∀ t ∈ (MIx.op d g o).rds,fr.get t = fr'.get t) → K' v k → opV P w0 (.op d g o) fr' k K' := fun fr' k K' ht hk => by
      simp only [opV,hg ht,hw]
      exact ⟨v,k,by rw [ho ht]; exact aGt hp e1 k,hk⟩
     exact ⟨v,e2,fun fr' L K' ht hk => key fr' _ K' ht hk,fun _ => key⟩
    | false =>
     have hl : ∃ y n,o = .load y n := by
      cases o <;> simp_all [kq]
     obtain ⟨y,n,rfl⟩ := hl
     have := lL (w0 := w0) (fr := fr) (h := h) (o := .load y n) rfl e1
     subst this
     refine ⟨v,e2,fun fr' L K' ht hk => ?_,fun h2 => by simp [kp,hp] at h2⟩
     simp only [opV,hg ht,hw]
     exact ⟨v,_,by rw [ho ht]; exact aFN e1 L,hk⟩
  · rename_i hw
    refine ⟨.tup [],e,fun fr' L K' ht hk => ?_,fun _ fr' k K' ht hk => ?_⟩
    · simp only [opV,hg ht,hw]; exact hk
    · simp only [opV,hg ht,hw]; exact hk
  · exact e.elim
theorem kP {x : MIx} {t : Nat} {c : List AV} {q : Option (Nat × Nat)} (h : kz x = some (t,c,q)) : x.dst = some t ∧ x.rds = [] ∧ c.all oI = true ∧ (∀ a,q = some a → a.1 * a.2 ≤ c.length) ∧ kb x = true ∧ kq x = false ∧
 ∀ (P : Program) (w0 : World) (fr : Fr) (h : Heap),(∀ K,opV P w0 x fr h K ↔ K (vz (.own h.length 0) q) (h ++ [some (.row c)])) ∧ ∀ K,K (fr.put x.dst (vz (.own h.length 0) q)) (h ++ [some (.row c)]) → iH P w0 [x] fr h K := by
 unfold kz at h
 split at h
 · split at h
   · rename_i t' z hz
     simp only [Option.some.injEq,Prod.mk.injEq] at h
     obtain ⟨rfl,rfl,rfl⟩ := h
     refine ⟨rfl,rfl,hz,fun a ha => (by cases ha),rfl,rfl,fun P w0 fr h => ⟨fun K => ?_,fun K k => ?_⟩⟩
     · simp only [opV,want,aop]
       constructor
       · rintro ⟨v,h',e,k⟩
         simp only [Option.some.injEq,Prod.mk.injEq] at e
         obtain ⟨rfl,rfl⟩ := e; exact k
       · intro k; exact ⟨_,_,rfl,k⟩
     · simp only [iH,want,aop]; exact ⟨_,_,rfl,k⟩
   · cases h
 · rename_i t' es z len ps
   split at h
   · rename_i c' hc
     split at h
     · rename_i hcond
       simp only [Option.some.injEq,Prod.mk.injEq] at h
       obtain ⟨rfl,rfl,rfl⟩ := h
       simp only [Bool.and_eq_true,List.all_eq_true,List.isEmpty_iff,Nat.ble_eq] at hcond
       obtain ⟨h1,h2,h3⟩ := hcond
       have hev : ∀ fr : Fr,(ps.map fun p => (p.1,p.2.1,p.2.2.ev fr)) = ps.map fun p => (p.1,p.2.1,p.2.2.ev []) := fun fr => List.map_congr_left fun p hp => by
        have := h1 p hp
        cases hx : p.2.2 with
        | t n => rw [hx] at this; simp [Opd.rds] at this
        | k v => rfl
       have ha : ∀ (w0 : World) (fr : Fr) (h : Heap),aop w0 (.bslice es z len ps) fr h = some (vz (.own h.length 0) (some (len,es)),h ++ [some (.row c')]) := fun w0 fr h => by
        have := hev fr
        simp only [aop]
        rw [show (ps.map fun x => match x with | (o,n,x) => (o,n,x.ev fr)) = ps.map fun p => (p.1,p.2.1,p.2.2.ev fr) from rfl,this,hc]
        rfl
       refine ⟨rfl,?_,List.all_eq_true.2 h2,fun a ha => (by cases ha; exact h3),rfl,rfl,fun P w0 fr h => ⟨fun K => ?_,fun K k => ?_⟩⟩
       · simp only [MIx.rds,grds,MOp.rds,List.nil_append,List.flatMap_eq_nil_iff]
         exact h1
       · simp only [opV,want,ha]
         constructor
         · rintro ⟨v,h',e,k⟩
           simp only [Option.some.injEq,Prod.mk.injEq] at e
           obtain ⟨rfl,rfl⟩ := e; exact k
         · intro k; exact ⟨_,_,rfl,k⟩
       · simp only [iH,want,ha]; exact ⟨_,_,rfl,k⟩
     · cases h
   · cases h
 · cases h
theorem kd_det {x : MIx} (hx : kd x = true) {K : AV → Heap → Prop} (e : opV P w0 x fr h K) : ∃ v h',K v h' ∧ (kg x = true → h.length ≤ h'.length ∧ ∀ (i : Nat) b,i < h.length → h'[i]? = some (some b) → h[i]? = some (some b)) ∧
 ∀ (fr' : Fr) (K' : AV → Heap → Prop),(∀ t ∈ x.rds,fr.get t = fr'.get t) → K' v h' → opV P w0 x fr' h K' := by
 cases x with
 | call d g f as => simp [kd] at hx
 | op d g o =>
  simp only [opV] at e
  have hg : ∀ {fr' : Fr},(∀ t ∈ (MIx.op d g o).rds,fr.get t = fr'.get t) → want fr' g = want fr g := fun ht => (jO fun t h1 => (ht t (by simp [MIx.rds,h1]))).symm
  have ho : ∀ {fr' : Fr} {k : Heap},(∀ t ∈ (MIx.op d g o).rds,fr.get t = fr'.get t) → aop w0 o fr' k = aop w0 o fr k := fun ht => (nV fun t h1 => (ht t (by simp [MIx.rds,h1]))).symm
  split at e
  · rename_i hw
    obtain ⟨v,h',e1,e2⟩ := e
    refine ⟨v,h',e2,fun hk => ?_,fun fr' K' ht hk => by simp only [opV,hg ht,hw]; exact ⟨v,h',by rw [ho ht]; exact e1,hk⟩⟩
    have hid : h' = h → h.length ≤ h'.length ∧ ∀ (i : Nat) b,i < h.length → h'[i]? = some (some b) → h[i]? = some (some b) := fun e => by subst e; exact ⟨Nat.le_refl _,fun _ _ _ e => e⟩
    have hap : ∀ c,h' = h ++ [c] → h.length ≤ h'.length ∧ ∀ (i : Nat) b,i < h.length → h'[i]? = some (some b) → h[i]? = some (some b) := fun c e => by
     subst e; exact ⟨by simp,fun i b hi e => by rwa [List.getElem?_append_left hi] at e⟩
    by_cases hqo : qop o = true
    · exact hid (lL hqo e1)
    · have hs : (∃ es z b x y,o = .app es z b x y) ∨ (∃ x n,o = .box x n) ∨ (∃ z,o = .alloc z) ∨ ∃ es z len ps,o = .bslice es z len ps := by
       cases o <;> simp_all [kg,kq,kb,qop,mQ]
      rcases hs with ⟨es,z,b,x,y,rfl⟩ | ⟨x,n,rfl⟩ | ⟨z,rfl⟩ | ⟨es,z,len,ps,rfl⟩
      · simp only [aop,fM,Option.bind_eq_some_iff] at e1
        obtain ⟨nl,_,e1⟩ := e1
        split at e1
        · split at e1 <;> simp at e1 <;> exact hid e1.2.symm
        · split at e1
          · split at e1
            · simp [jR] at e1; exact hap _ e1.2.symm
            · cases e1
          · split at e1
            · split at e1
              · simp only [Option.bind_eq_some_iff] at e1
                obtain ⟨_,_,e1⟩ := e1
                simp [jR] at e1; exact hap _ e1.2.symm
              · split at e1
                · simp only [Option.bind_eq_some_iff] at e1
                  obtain ⟨_,_,e1⟩ := e1
                  simp only [Option.some.injEq,Prod.mk.injEq] at e1
                  have hset : ∀ (i0 : Nat) (c : Option Blk),h' = h.set i0 none ++ [c] → h.length ≤ h'.length ∧ ∀ (i : Nat) b,i < h.length → h'[i]? = some (some b) → h[i]? = some (some b) := fun i0 c e => by
                   subst e
                   refine ⟨by simp,fun i b hi e => ?_⟩
                   rw [List.getElem?_append_left (by simpa using hi)] at e
                   by_cases he : i0 = i
                   · subst he; rw [List.getElem?_set_self hi] at e; cases e
                   · rwa [List.getElem?_set_ne he] at e
                  exact hset _ _ e1.2.symm
                · cases e1
            · cases e1
          · cases e1
      · simp only [aop] at e1
        split at e1
        · split at e1
          · simp at e1; exact hap _ e1.2.symm
          · cases e1
        · cases e1
      · simp [aop] at e1; exact hap _ e1.2.symm
      · simp only [aop] at e1
        split at e1
        · simp [jR] at e1; exact hap _ e1.2.symm
        · cases e1
  · rename_i hw
    exact ⟨.tup [],h,e,fun _ => ⟨Nat.le_refl _,fun _ _ _ e => e⟩,fun fr' K' ht hk => by simp only [opV,hg ht,hw]; exact hk⟩
  · exact e.elim
theorem kb_app {x : MIx} (hx : kb x = true) {K : AV → Heap → Prop} (e : opV P w0 x fr h K) : opV P w0 x fr h fun v h' => K v h' ∧ ∃ L,h' = h ++ L := by
 cases x with
 | call d g f as => simp [kb] at hx
 | op d g o =>
  simp only [opV] at e ⊢
  split at e
  · obtain ⟨v,h',e1,e2⟩ := e
    refine ⟨v,h',e1,e2,?_⟩
    have hs : (∃ x n,o = .box x n) ∨ (∃ z,o = .alloc z) ∨ ∃ es z len ps,o = .bslice es z len ps := by
     cases o <;> simp_all [kb]
    rcases hs with ⟨x,n,rfl⟩ | ⟨z,rfl⟩ | ⟨es,z,len,ps,rfl⟩
    · simp only [aop] at e1
      split at e1
      · split at e1
        · simp at e1; exact ⟨_,e1.2.symm⟩
        · cases e1
      · cases e1
    · simp [aop] at e1; exact ⟨_,e1.2.symm⟩
    · simp only [aop] at e1
      split at e1
      · simp [jR] at e1; exact ⟨_,e1.2.symm⟩
      · cases e1
  · exact ⟨e,[],by simp⟩
  · exact e
theorem kq_kg {x : MIx} (h : kq x = true) : kg x = true := by
 unfold kg; split
 · rfl
 · rw [h]; rfl
theorem kg_kd {x : MIx} (h : kg x = true) : kd x = true := by
 cases x with
 | op d g o => rfl
 | call d g f as => simp [kg,kq,kb] at h
theorem aJm {x : MIx} (hq : kq x = true) {h1 : Heap} (hb : kp x = true ∨ ((∀ t ∈ x.rds,(fr.get t).bdd h.length) ∧ ∀ (i : Nat) b,i < h.length → h1[i]? = some (some b) → h[i]? = some (some b))) {K : AV → Heap → Prop} (e : opV P w0 x fr h1 K) : opV P w0 x fr h fun v h' => h' = h ∧ K v h1 := by
 obtain ⟨v,k,s1,s2⟩ := rA hq e
 rcases hb with hp | ⟨hb,hk⟩
 · exact s2 hp fr h _ (fun _ _ => rfl) ⟨rfl,k⟩
 · by_cases hp : kp x = true
   · exact s2 hp fr h _ (fun _ _ => rfl) ⟨rfl,k⟩
   · cases x with
     | call d g f as => simp [kq] at hq
     | op d g o =>
      have hl : ∃ s n,o = .load (.t s) n := by
       cases o <;> simp_all [kq,kp]
       rename_i y n
       cases y <;> simp_all
      obtain ⟨y,n,rfl⟩ := hl
      simp only [opV] at e ⊢
      split at e
      · obtain ⟨v,h',e1,e2⟩ := e
        have := lL (w0 := w0) (fr := fr) (h := h1) (o := .load (.t y) n) rfl e1
        subst this
        refine ⟨v,h,?_,rfl,e2⟩
        simp only [aop] at e1 ⊢
        split at e1
        · rename_i p hp
          simp only [Option.bind_eq_some_iff,Option.some.injEq,Prod.mk.injEq] at e1 ⊢
          obtain ⟨u,e1,rfl,_⟩ := e1
          refine ⟨u,?_,rfl,trivial⟩
          have hpb : ∀ i o,p = .own i o → ∀ b,h'[i]? = some (some b) → h[i]? = some (some b) := fun i o hpe b hb' => by
           subst hpe
           have := hb y (by simp [MIx.rds,MOp.rds,Opd.rds])
           simp only [Opd.ev] at hp
           rw [hp] at this
           simp only [AV.bdd,Pl.bdd] at this
           exact hk i b this hb'
          cases p with
          | old a => cases n <;> exact e1
          | own i o =>
           have hrow : ∃ c,h'[i]? = some (some (.row c)) := by
            cases n with
            | none =>
             simp only [rdv,rd] at e1
             split at e1
             · rename_i c hc; exact ⟨c,hc⟩
             · cases e1
            | some n =>
             simp only [rdv,rdn] at e1
             split at e1
             · rename_i c hc; exact ⟨c,hc⟩
             · simp at e1
           obtain ⟨c,hc⟩ := hrow
           have hc' := hpb i o rfl _ hc
           cases n with
           | none => simp only [rdv,rd,hc,hc'] at e1 ⊢; exact e1
           | some n => simp only [rdv,rdn,hc,hc'] at e1 ⊢; exact e1
        · cases e1
      · exact ⟨trivial,e⟩
      · exact e
section
variable {R : Nat → List Nat}
theorem mv_q {K : Fr → Heap → Prop} (hK : ∀ fr fr' h,FE fr fr' → K fr h → K fr' h) {i : Nat} {x : MIx} {B : List Nat} (hi : l[i]? = some x) (hq : kq x = true) :
 ∀ (A : List Nat) (fr : Fr) (h : Heap),(kp x = true ∨ ∀ t ∈ x.rds,(fr.get t).bdd h.length) → (∀ a ∈ A,∀ y,l[a]? = some y → Ap x y ∧ ((kp x = true ∧ kd y = true) ∨ kg y = true) ∧ ∀ u ∈ R a,∀ z,l[u]? = some z → ∀ t,x.dst = some t → t ∉ z.rds ∧ z.dst ≠ some t) →
  wli P w0 l R (A ++ i :: B) fr h K → opV P w0 x fr h fun v h' => h' = h ∧ wli P w0 l R (A ++ B) (fr.put x.dst v) h K
 | [],fr,h,_,_,e => by
  obtain ⟨x',hx',e⟩ := e
  rw [hi] at hx'; cases hx'
  obtain ⟨v,k,s,_⟩ := rA hq e
  have := s fr [] (fun v h' => h' = h ∧ wli P w0 l R ([] ++ B) (fr.put x.dst v) h K) (fun _ _ => rfl) ⟨by simp,by simpa using k.2⟩
  simpa using this
 | a :: A,fr,h,hb,hA,e => by
  obtain ⟨y,hy,e⟩ := e
  obtain ⟨hap,hqy,hR⟩ := hA a (by simp) y hy
  obtain ⟨u,h1,k,bk,s⟩ := kd_det (hqy.elim (·.2) kg_kd) e
  have hxr : ∀ t ∈ x.rds,(fr.put y.dst u).get t = fr.get t := fun t ht => bB fun d hd e => by subst e; exact hap.b _ hd ht
  have ih := mv_q hK hi hq A (fr.put y.dst u) h1 (by
   rcases hb with hb | hb
   · exact .inl hb
   · rcases hqy with h2 | h2
     · exact .inl h2.1
     · exact .inr fun t ht => by rw [hxr t ht]; exact AV.bdd_mono (bk h2).1 _ (hb t ht)) (fun b hb => hA b (by simp [hb])) k.2
  have ih2 := aJm (h := h) hq (by
   rcases hb with hb | hb
   · exact .inl hb
   · rcases hqy with h2 | h2
     · exact .inl h2.1
     · exact .inr ⟨fun t ht => by rw [hxr t ht]; exact hb t ht,(bk h2).2⟩) ih
  refine (eJ hxr ih2).mono fun v h' q => ⟨q.1,y,hy,s _ _ (fun t ht => ?_) ⟨oY (fun w hw z hz t ht => ?_) k.1,aBb hK (FE.swap hap.symm u v) q.2.2⟩⟩
  · rw [bB (fun d hd e => by subst e; exact hap.a _ hd ht)]
  · have hxt : x.dst ≠ some t := fun e => by
     have := hR w hw z hz t e
     rcases ht with ht | ht
     · exact this.1 ht
     · exact this.2 ht
    by_cases hd : y.dst = some t
    · rw [hd]
      rw [show ∀ f : Fr,f.put (some t) u = (t,u) :: f from fun _ => rfl,show ∀ f : Fr,f.put (some t) u = (t,u) :: f from fun _ => rfl]
      simp [Fr.get,Nat.beq_refl]
    · rw [bB (fun d hd' e => by subst e; exact hd hd'),bB (fun d hd' e => by subst e; exact hd hd'),bB (fun d hd' e => by subst e; exact hxt hd')]
def jB (P : Program) (w0 : World) (l : List MIx) : List Nat → Fr → Heap → Fr → Prop
 | [],fr,_,fr' => fr' = fr
 | a :: A,fr,h,fr' => ∃ y u,l[a]? = some y ∧ kq y = true ∧ opV P w0 y fr h (fun v _ => v = u) ∧ jB P w0 l A (fr.put y.dst u) h fr'
theorem jB.of {K : Fr → Heap → Prop} {is : List Nat} : ∀ {A : List Nat} {fr : Fr} {h : Heap},(∀ a ∈ A,∀ y,l[a]? = some y → kq y = true) → wli P w0 l R (A ++ is) fr h K → ∃ fr',jB P w0 l A fr h fr' ∧ wli P w0 l R is fr' h K
 | [],fr,h,_,e => ⟨fr,rfl,e⟩
 | a :: A,fr,h,hA,e => by
  obtain ⟨y,hy,e⟩ := e
  obtain ⟨u,k,s,_⟩ := rA (hA a (by simp) y hy) e
  obtain ⟨fr',r,w⟩ := jB.of (fun b hb => hA b (by simp [hb])) k.2
  refine ⟨fr',⟨y,u,hy,hA a (by simp) y hy,?_,r⟩,w⟩
  have := s fr [] (fun v _ => v = u) (fun _ _ => rfl) rfl
  simpa using this
theorem opV_eq {y : MIx} {u : AV} (hq : kq y = true) (e : opV P w0 y fr h fun v _ => v = u) {K : AV → Heap → Prop} (k : K u h) : opV P w0 y fr h K := by
 obtain ⟨v,rfl,s,_⟩ := rA hq e
 have := s fr [] K (fun _ _ => rfl) (by simpa using k)
 simpa using this
theorem jB.to {K : Fr → Heap → Prop} {is : List Nat} : ∀ {A : List Nat} {fr fr' : Fr} {h : Heap},(∀ a ∈ A,R a = []) → jB P w0 l A fr h fr' → wli P w0 l R is fr' h K → wli P w0 l R (A ++ is) fr h K
 | [],fr,fr',h,_,r,e => by cases r; exact e
 | a :: A,fr,fr',h,hR,r,e => by
  obtain ⟨y,u,hy,hq,hv,r⟩ := r
  exact ⟨y,hy,opV_eq hq hv ⟨by rw [hR a (by simp)]; exact fun u hu => (by cases hu),jB.to (fun b hb => hR b (by simp [hb])) r e⟩⟩
theorem jB.get {t : Nat} : ∀ {A : List Nat} {fr fr' : Fr} {h : Heap},(∀ a ∈ A,∀ y,l[a]? = some y → y.dst ≠ some t) → jB P w0 l A fr h fr' → fr'.get t = fr.get t
 | [],fr,fr',h,_,r => by cases r; rfl
 | a :: A,fr,fr',h,hA,r => by
  obtain ⟨y,u,hy,hq,hv,r⟩ := r
  rw [jB.get (fun b hb => hA b (by simp [hb])) r,bB fun d hd e => by subst e; exact hA a (by simp) y hy hd]
theorem jB.fe : ∀ {A : List Nat} {fr fr' fr1 : Fr} {h : Heap},FE fr fr1 → jB P w0 l A fr h fr' → ∃ fr1',jB P w0 l A fr1 h fr1' ∧ FE fr' fr1'
 | [],fr,fr',fr1,h,e,r => by cases r; exact ⟨fr1,rfl,e⟩
 | a :: A,fr,fr',fr1,h,e,r => by
  obtain ⟨y,u,hy,hq,hv,r⟩ := r
  obtain ⟨f,r2,e2⟩ := jB.fe (e.put y.dst u) r
  exact ⟨f,⟨y,u,hy,hq,aE0 e hv,r2⟩,e2⟩
def OkA (P : Program) (w0 : World) (l : List MIx) (x : MIx) (v : AV) (h h' : Heap) (fe : Fr) : List Nat → Prop
 | [] => True
 | a :: A => (∀ y,l[a]? = some y → Ap x y ∧ (kp y = true ∨ (∃ L,h' = h ++ L) ∨ ((∃ t,y.dst = some t ∧ opV P w0 y (fe.put x.dst v) h' fun w _ => w = (fe.put x.dst v).get t) ∧ ∀ b ∈ a :: A,∀ z,l[b]? = some z → ∀ t,z.dst = some t → t ∉ y.rds)) ∧
  ∀ b ∈ A,∀ z,l[b]? = some z → ∀ t,y.dst = some t → z.dst ≠ some t) ∧ OkA P w0 l x v h h' fe A
theorem jB.behind {x : MIx} {v : AV} {h' : Heap} {fe : Fr} : ∀ {A : List Nat} {fr : Fr} {h : Heap},jB P w0 l A fr h fe → OkA P w0 l x v h h' fe A → ∃ fr'',jB P w0 l A (fr.put x.dst v) h' fr'' ∧ FE fr'' (fe.put x.dst v)
 | [],fr,h,r,_ => by cases r; exact ⟨_,rfl,FE.refl _⟩
 | a :: A,fr,h,r,ok => by
  have r0 := r
  obtain ⟨y,u,hy,hq,hv,r⟩ := r
  obtain ⟨hap,how,hds⟩ := ok.1 y hy
  have hag : ∀ t ∈ y.rds,fr.get t = (fr.put x.dst v).get t := fun t ht => (bB fun d hd e => by subst e; exact hap.a _ hd ht).symm
  have hval : opV P w0 y (fr.put x.dst v) h' fun w _ => w = u := by
   rcases how with hp | ⟨L,rfl⟩ | ⟨⟨t,ht,hc⟩,hw⟩
   · obtain ⟨w,rfl,_,s⟩ := rA hq hv
     exact s hp _ _ _ hag rfl
   · obtain ⟨w,rfl,s,_⟩ := rA hq hv
     exact s _ _ _ hag rfl
   · have h1 : (fe.put x.dst v).get t = u := by
      rw [bB fun d hd e => by subst e; exact hap.c _ hd ht,jB.get (fun b hb z hz => hds b hb z hz t ht) r,ht,bY]
     refine eJ (fun s hs => ?_) (hc.mono fun w _ e => e.trans h1)
     rw [bB fun d hd e => by subst e; exact hap.a _ hd hs,bB fun d hd e => by subst e; exact hap.a _ hd hs]
     exact jB.get (fun b hb z hz hd => hw b hb z hz s hd hs) r0
  obtain ⟨f,r2,e2⟩ := jB.behind r ok.2
  obtain ⟨f2,r3,e3⟩ := jB.fe (FE.swap hap.symm u v) r2
  exact ⟨f2,⟨y,u,hy,hq,hval,r3⟩,e3.symm.trans e2⟩
theorem mv_e {K : Fr → Heap → Prop} (hK : ∀ fr fr' h,FE fr fr' → K fr h → K fr' h) {i : Nat} {x : MIx} {A B : List Nat} (hi : l[i]? = some x)
 (hA : ∀ A1 a A2,A = A1 ++ a :: A2 → ∀ y,l[a]? = some y → Ap x y ∧ kq y = true ∧ R a = [] ∧ (kp y = true ∨ kb x = true ∨ (a ∈ R i ∧ ∀ b ∈ a :: A2,∀ z,l[b]? = some z → ∀ t,z.dst = some t → t ∉ y.rds)) ∧ ∀ b ∈ A2,∀ z,l[b]? = some z → ∀ t,y.dst = some t → z.dst ≠ some t)
 (e : wli P w0 l R (A ++ i :: B) fr h K) : opV P w0 x fr h fun v h' => wli P w0 l R (A ++ B) (fr.put x.dst v) h' K := by
 have hA1 : ∀ a ∈ A,∀ y,l[a]? = some y → Ap x y ∧ kq y = true ∧ R a = [] := fun a ha y hy => by
  obtain ⟨A1,A2,e⟩ := List.append_of_mem ha
  obtain ⟨h1,h2,h3,_⟩ := hA A1 a A2 e y hy
  exact ⟨h1,h2,h3⟩
 obtain ⟨fe,r,x',hx',e⟩ := jB.of (fun a ha y hy => (hA1 a ha y hy).2.1) e
 rw [hi] at hx'; cases hx'
 have hin : ∀ a ∈ A,∃ y,l[a]? = some y := by
  have : ∀ {A : List Nat} {fr fr' : Fr},jB P w0 l A fr h fr' → ∀ a ∈ A,∃ y,l[a]? = some y := fun {A} => by
   induction A with
   | nil => intro _ _ _ a ha; cases ha
   | cons b A ih =>
    intro fr fr' r a ha
    obtain ⟨y,u,hy,_,_,r⟩ := r
    rcases List.mem_cons.1 ha with rfl | ha
    · exact ⟨y,hy⟩
    · exact ih r a ha
  exact this r
 have e2 : opV P w0 x fe h fun v h' => (aAG P w0 l (R i) (fe.put x.dst v) h' ∧ wli P w0 l R B (fe.put x.dst v) h' K) ∧ (kb x = true → ∃ L,h' = h ++ L) := by
  by_cases hb : kb x = true
  · exact (kb_app hb e).mono fun v h' q => ⟨q.1,fun _ => q.2⟩
  · exact e.mono fun v h' q => ⟨q,fun h => absurd h hb⟩
 refine (eJ (fun t ht => jB.get (fun a ha y hy hd => (hA1 a ha y hy).1.b t hd ht) r) e2).mono fun v h' q => ?_
 have ok : ∀ A1 A2,A = A1 ++ A2 → OkA P w0 l x v h h' fe A2 := fun A1 A2 => by
  induction A2 generalizing A1 with
  | nil => intro _; trivial
  | cons a A2 ih =>
   intro e
   refine ⟨fun y hy => ?_,ih (A1 ++ [a]) (by rw [e]; simp)⟩
   obtain ⟨h1,h2,_,h4,h5⟩ := hA A1 a A2 e y hy
   refine ⟨h1,?_,h5⟩
   rcases h4 with h4 | h4 | ⟨h4,h6⟩
   · exact .inl h4
   · exact .inr (.inl (q.2 h4))
   · obtain ⟨y',t,hy',ht,hv⟩ := q.1.1 a h4
     rw [hy] at hy'; cases hy'
     exact .inr (.inr ⟨⟨t,ht,hv⟩,h6⟩)
 obtain ⟨f,r2,e3⟩ := jB.behind r (ok [] A rfl)
 exact jB.to (fun a ha => by obtain ⟨y,hy⟩ := hin a ha; exact (hA1 a ha y hy).2.2) r2 (aBb hK e3.symm q.1.2)
end
def rem (n : Nat) (f : Nat → Bool) : List Nat := (List.range n).filter f
theorem qU {n : Nat} {f : Nat → Bool} {i : Nat} (hi : i < n) (hf : f i = true) : ∃ B,rem n f = (List.range i).filter f ++ i :: B ∧ ∀ g : Nat → Bool,(∀ j,j ≠ i → g j = f j) → g i = false → rem n g = (List.range i).filter f ++ B := by
 induction n with
 | zero => omega
 | succ n ih =>
  have hr : ∀ f : Nat → Bool,rem (n + 1) f = rem n f ++ (if f n = true then [n] else []) := fun f => by
   unfold rem; rw [List.range_succ,List.filter_append]; cases e : f n <;> simp [e]
  rcases Nat.lt_or_ge i n with h1 | h1
  · obtain ⟨B,e1,e2⟩ := ih h1
    refine ⟨B ++ (if f n = true then [n] else []),by rw [hr,e1]; simp,fun g hg hgi => ?_⟩
    rw [hr,e2 g hg hgi,hg n (by omega),List.append_assoc]
  · obtain rfl : i = n := by omega
    refine ⟨[],by rw [hr,hf]; rfl,fun g hg hgi => ?_⟩
    rw [hr,hgi]
    simp only [Bool.false_eq_true,if_false,List.append_nil]
    unfold rem
    exact List.filter_congr fun j hj => hg j (by have := List.mem_range.1 hj; omega)
theorem wC {n : Nat} {f g : Nat → Bool} (h : ∀ j,j < n → g j = f j) : rem n g = rem n f := List.filter_congr fun j hj => h j (List.mem_range.1 hj)
theorem aHr {n : Nat} {f : Nat → Bool} (h : ∀ j,j < n → f j = false) : rem n f = [] := by
 unfold rem; rw [List.filter_eq_nil_iff]; exact fun j hj => by rw [h j (List.mem_range.1 hj)]; simp
end
end Go.Proofs.Ab
namespace Go.Proofs.Ab
open Go
theorem least {p : Nat → Prop} (h : ∃ n,p n) : ∃ n,p n ∧ ∀ m,m < n → ¬ p m := by
 obtain ⟨n,hn⟩ := h
 induction n using Nat.strongRecOn with
 | ind n ih =>
  by_cases hx : ∃ m,m < n ∧ p m
  · obtain ⟨m,h1,h2⟩ := hx; exact ih m h1 h2
  · exact ⟨n,hn,fun m h1 h2 => hx ⟨m,h1,h2⟩⟩
section
variable {P : Program} {w0 ws : World} {r lr : Option Nat} {nt Z : Nat} {Bs : Bs} {m m' m0 : Emb} {fr fr' : Fr} {h h' h0 : Heap} {a a' : Act} {w w' : World} {l : List MIx} {bf : Nat → Nat → Bool} {R : Nat → List Nat} {K : Fr → Heap → Prop} {S Pd : Nat → Bool}
def nra (l : List MIx) (y : MIx) : Bool := l.all fun x => match kz x with
 | some a => !y.rds.contains a.1
 | none => true
structure FL (l : List MIx) (bf : Nat → Nat → Bool) (R : Nat → List Nat) : Prop where
 lt : ∀ {i j : Nat},j < l.length → bf j i = true → i < j
 pair : ∀ {i j : Nat} {x y : MIx},i < j → l[i]? = some x → l[j]? = some y → bf j i = false →
  (kq x = true ∧ kq y = true) ∨ (kq x = true ∧ kq y = false ∧ (kp x = true ∨ kb y = true ∨ i ∈ R j)) ∨ (kz y).isSome = true ∨ (kq x = false ∧ kq y = true ∧ nra l y = true ∧ ((kp y = true ∧ kd x = true) ∨ kg x = true))
 ap : ∀ {i j : Nat} {x y : MIx},i ≠ j → l[i]? = some x → l[j]? = some y → bf i j = false → bf j i = false → Ap x y
 ds : ∀ i j t,i < l.length → j < l.length → j ≠ i → bJ l i = some t → bJ l j ≠ some t
 rq : ∀ i x,l[i]? = some x → kq x = true → R i = []
 ru : ∀ i u,u ∈ R i → u < i
 ro : ∀ i u,u ∈ R i → ∀ z,l[u]? = some z → ∀ (b : Nat) y,u ≤ b → l[b]? = some y → ∀ t,y.dst = some t → t ∉ z.rds
theorem aEn {p : Pl} {q : Option (Nat × Nat)} {N : Nat} (h : p.bdd N) : (vz p q).bdd N := by cases q <;> simpa [vz,AV.bdd] using h
theorem vz_old {m : Emb} {i : Nat} {q : Option (Nat × Nat)} {v : Value} (e : VR m (vz (.own i 0) q) v) : VR m (vz (.old ⟨m.blk i,m.base i,none⟩) q) v := by
 cases q with
 | none => simpa [vz,VR,Emb.pl] using e
 | some q =>
  simp only [vz,VR,Emb.pl] at e ⊢
  obtain ⟨a,cap,e1,e2,e3,e4⟩ := e
  refine ⟨a,cap,e1,e2,e3,?_⟩
  rcases e4 with e4 | ⟨e4,_⟩
  · exact .inl e4
  · exact .inr ⟨by simpa using e4,fun i off hp => by cases hp⟩
theorem vz_new {m : Emb} {i c d n : Nat} {q : Option (Nat × Nat)} {v : Value} (hq : ∀ a,q = some a → a.1 * a.2 ≤ n) (e : VR m (vz (.old ⟨c,d,none⟩) q) v) : VR (m.put i c d n) (vz (.own i 0) q) v := by
 have hp : (m.put i c d n).pl (.own i 0) = ⟨c,d,none⟩ := by simp [Emb.pl,Emb.put]
 cases q with
 | none => simp only [vz,VR,hp] at e ⊢; simpa [Emb.pl] using e
 | some q =>
  simp only [vz,VR,hp] at e ⊢
  obtain ⟨a,cap,e1,e2,e3,e4⟩ := e
  refine ⟨a,cap,e1,e2,e3,?_⟩
  rcases e4 with e4 | ⟨e4,_⟩
  · exact .inl e4
  · refine .inr ⟨e4,fun i' off hp' => ?_⟩
    cases hp'
    have := e3 trivial
    subst this
    have := hq q rfl
    simp [Emb.put]; exact this
structure Pnd (w0 ws : World) (l : List MIx) (m : Emb) (fr : Fr) (h : Heap) (w : World) (f c : Nat) : Prop where
 ex : ∃ t z d n q x,(l[f]? = some x ∧ kz x = some (t,z,q)) ∧ z.all oI = true ∧ fr.get t = vz (.old ⟨c,d,none⟩) q ∧ BR m d n (.row z) (w.heap[c]?)
 g1 : w0.heap.size ≤ c
 g2 : ws.heap.size ≤ c
 ne : ∀ (i : Nat) b,h[i]? = some (some b) → m.blk i ≠ c
theorem Pnd.lt {f c : Nat} (k : Pnd w0 ws l m fr h w f c) : c < w.heap.size := by
 obtain ⟨t,z,d,n,q,x,_,_,_,e⟩ := k.ex
 obtain ⟨x,hx⟩ := e.some
 rcases Nat.lt_or_ge c w.heap.size with h1 | h1
 · exact h1
 · rw [Array.getElem?_eq_none h1] at hx; cases hx
theorem vH {d n : Nat} {z : List AV} (hz : z.all oI = true) {o : Option Obj} (e : BR m d n (.row z) o) : BR m' d n (.row z) o := by
 obtain ⟨ca,e1,e2,e3,e4⟩ := e
 refine ⟨ca,e1,e2,e3,fun k x hx => ?_⟩
 obtain ⟨y,hy,hv⟩ := e4 k x hx
 exact ⟨y,hy,aFS (List.all_eq_true.1 hz x (List.mem_of_getElem? hx)) hv⟩
theorem Pnd.step {f c : Nat} (k : Pnd w0 ws l m fr h w f c) (s : bO w0 m m' h h' w w') (hfr : ∀ t,bJ l f = some t → fr'.get t = fr.get t) : Pnd w0 ws l m' fr' h' w' f c := by
 have hlt := k.lt
 obtain ⟨t,z,d,n,q,x,e1,e2,e3,e4⟩ := k.ex
 refine ⟨⟨t,z,d,n,q,x,e1,e2,by rw [hfr t (by simp [bJ,e1.1,(kP e1.2).1])]; exact e3,?_⟩,k.g1,k.g2,fun i b hi e => ?_⟩
 · rw [s.mods.same c hlt k.ne]; exact vH e2 e4
 · obtain ⟨j,b',hj,e'⟩ := s.roots i b hi (by omega)
   exact k.ne j b' hj (e'.trans e)
structure JC (P : Program) (w0 ws : World) (r lr : Option Nat) (nt Z : Nat) (Bs : Ab.Bs) (m0 : Emb) (h0 : Heap) (l : List MIx) (R : Nat → List Nat) (K : Fr → Heap → Prop) (S Pd : Nat → Bool) (m : Emb) (fr : Fr) (h : Heap) (a : Act) (w : World) : Prop where
 sa : SA w0 r lr nt Z Bs m fr h a w
 st : iN Z w0 m0 m h0 h ws w
 wp : ∃ fr0 : Fr,(∀ t,(∀ f,Pd f = true → bJ l f ≠ some t) → fr.get t = fr0.get t) ∧ wli P w0 l R (rem l.length fun i => !S i || Pd i) fr0 h K
 pd : ∃ c : Nat → Nat,(∀ f,Pd f = true → Pnd w0 ws l m fr h w f (c f)) ∧ ∀ f g,Pd f = true → Pd g = true → f ≠ g → c f ≠ c g
 ps : ∀ f,Pd f = true → S f = true ∧ f < l.length
def aEb (l : List MIx) (S : Nat → Bool) (f : Nat) : Prop := ∃ e x,e < f ∧ S e = false ∧ l[e]? = some x ∧ kq x = false
def clsd (bf : Nat → Nat → Bool) (S : Nat → Bool) : Prop := ∀ i j,S i = true → bf i j = true → S j = true
theorem BR_len {d n : Nat} {z : List AV} {o : Option Obj} (e : BR m d n (.row z) o) : z.length ≤ n := by
 obtain ⟨ca,e1,_,e3,e4⟩ := e
 rcases Nat.eq_zero_or_pos z.length with h0 | h0
 · omega
 · obtain ⟨y,hy,_⟩ := e4 (z.length - 1) z[z.length - 1] (List.getElem?_eq_getElem (by omega))
   have := (Array.getElem?_eq_some_iff.1 hy).1
   omega
theorem SA.tell {t c d n : Nat} {z : List AV} {q : Option (Nat × Nat)} (hq : ∀ a,q = some a → a.1 * a.2 ≤ z.length) (sa : SA w0 r lr nt Z Bs m fr h a w) (st : iN Z w0 m0 m h0 h ws w) (hz : z.all oI = true) (hg : fr.get t = vz (.old ⟨c,d,none⟩) q) (hbr : BR m d n (.row z) (w.heap[c]?)) (g1 : w0.heap.size ≤ c) (g2 : ws.heap.size ≤ c)
 (ne : ∀ (i : Nat) b,h[i]? = some (some b) → m.blk i ≠ c) : SA w0 r lr nt Z Bs (m.put h.length c d n) (fr.put (some t) (vz (.own h.length 0) q)) (h ++ [some (.row z)]) a w ∧ iN Z w0 m0 (m.put h.length c d n) h0 (h ++ [some (.row z)]) ws w := by
 have hext : Ext m (m.put h.length c d n) h.length := Emb.put_ext m c d n (Nat.le_refl _)
 have hlt : ∀ {i : Nat},i < h.length → (m.put h.length c d n).blk i = m.blk i := fun {i} hi => by simp [Emb.put,Nat.ne_of_lt hi]
 have hblk : (m.put h.length c d n).blk h.length = c := by simp [Emb.put]
 have hget : ∀ {i : Nat} {b : Blk},(h ++ [some (Blk.row z)])[i]? = some (some b) → (i < h.length ∧ h[i]? = some (some b)) ∨ (i = h.length ∧ b = .row z) := fun {i b} hi => by
  rcases Nat.lt_or_ge i h.length with h1 | h1
  · rw [List.getElem?_append_left h1] at hi; exact .inl ⟨h1,hi⟩
  · rw [List.getElem?_append_right h1] at hi
    have := aI hi
    simp only [List.length_singleton] at this
    have e : i = h.length := by omega
    subst e
    simp at hi
    exact .inr ⟨rfl,hi.symm⟩
 have hzb : ∀ N,(Blk.row z).bdd N := fun N x hx => aDH (List.all_eq_true.1 hz x hx) N
 have sim : Sim w0 (m.put h.length c d n) (h ++ [some (.row z)]) w := by
  refine ⟨sa.sim.size,sa.sim.old,fun i b hi => ?_,fun i j b b' hij hi hj => ?_⟩
  · rcases hget hi with ⟨h1,h2⟩ | ⟨rfl,rfl⟩
    · obtain ⟨k1,k2,k3⟩ := sa.sim.at_ i b h2
      refine ⟨by rw [hlt h1]; exact k1,?_,Blk.bdd_mono (by simp) k3⟩
      have e1 : (m.put h.length c d n).base i = m.base i := by simp [Emb.put,Nat.ne_of_lt h1]
      have e2 : (m.put h.length c d n).sz i = m.sz i := by simp [Emb.put,Nat.ne_of_lt h1]
      rw [hlt h1,e1,e2]
      exact yZ hext k3 k2
    · refine ⟨by rw [hblk]; exact g1,?_,hzb _⟩
      rw [hblk,show (m.put h.length c d n).base h.length = d by simp [Emb.put],show (m.put h.length c d n).sz h.length = n by simp [Emb.put]]
      exact vH hz hbr
  · rcases hget hi with ⟨h1,h2⟩ | ⟨rfl,rfl⟩ <;> rcases hget hj with ⟨h3,h4⟩ | ⟨rfl,rfl⟩
    · rw [hlt h1,hlt h3]; exact sa.sim.inj i j b b' hij h2 h4
    · rw [hlt h1,hblk]; exact ne i b h2
    · rw [hlt h3,hblk]; exact (ne j b' h4).symm
    · exact absurd rfl hij
 refine ⟨⟨sim,fun s => ?_,sa.size,sa.low,?_,?_,sa.inr,by have := sa.hz; simp; omega⟩,⟨sim,fun i hi => ?_,st.mods,by have := st.le; simp; omega,fun i b hi hl => ?_⟩⟩
 · by_cases e : s = t
   · subst e
     have h1 := (sa.frame s).1
     rw [hg] at h1
     rw [bY]
     refine ⟨vz_new (fun a ha => Nat.le_trans (hq a ha) (BR_len hbr)) h1,aEn (by simp [Pl.bdd])⟩
   · rw [bB (fun u hu e2 => by cases hu; exact e e2.symm)]
     obtain ⟨h1,h2⟩ := sa.frame s
     exact ⟨fY hext _ _ h2 h1,AV.bdd_mono (by simp) _ h2⟩
 · obtain ⟨rs,h1,h2,h3⟩ := sa.marks
   refine ⟨rs,h1,h2,fun q hq => ?_⟩
   obtain ⟨k1,k2,k3⟩ := h3 q hq
   refine ⟨k1,k2,fun i b hi => ?_⟩
   rcases hget hi with ⟨h4,h5⟩ | ⟨rfl,rfl⟩
   · rw [hlt h4]; exact k3 i b h5
   · rw [hblk]
     intro e
     subst e
     obtain ⟨ca,e1,e2,_⟩ := hbr
     rw [k2] at e2; cases e2
 · rw [sa.rnd]
   cases hr : r with
   | none => rfl
   | some i => simp [hlt (Nat.lt_of_lt_of_le (sa.inr i hr) sa.hz)]
 · have h1 := st.ext i hi
   have h2 := hext i (Nat.lt_of_lt_of_le hi sa.hz)
   exact ⟨h2.1.trans h1.1,h2.2.1.trans h1.2.1,h2.2.2.trans h1.2.2⟩
 · rcases hget hi with ⟨h4,h5⟩ | ⟨rfl,rfl⟩
   · rw [hlt h4] at hl ⊢; exact st.roots i b h5 hl
   · rw [hblk] at hl; omega
end
end Go.Proofs.Ab
namespace Go.Proofs.Ab
open Go
section
variable {P : Program} {w0 ws : World} {r lr : Option Nat} {nt Z : Nat} {Bs : Bs} {m m' m0 : Emb} {fr fr' : Fr} {h h' h0 : Heap} {a a' : Act} {w w' : World} {l : List MIx} {bf : Nat → Nat → Bool} {R : Nat → List Nat} {K : Fr → Heap → Prop} {S Pd : Nat → Bool}
theorem aGe {n f : Nat} {p : Nat → Bool} (hf : f < n) (hp : p f = true) : ((List.range n).filter fun i => p i && !Nat.beq i f).length < ((List.range n).filter p).length := by
 obtain ⟨B,e1,e2⟩ := qU (f := p) hf hp
 have h1 := e2 (fun i => p i && !Nat.beq i f) (fun j hj => by
  have : Nat.beq j f = false := by
   cases hb : Nat.beq j f with
   | false => rfl
   | true => exact absurd (bD.1 hb) hj
  simp [this]) (by simp [Nat.beq_refl])
 unfold rem at e1 h1
 rw [e1,h1]; simp
theorem aBJ {n : Nat} {p : Nat → Bool} {A1 A2 : List Nat} {a : Nat} (e : (List.range n).filter p = A1 ++ a :: A2) : ∀ b ∈ A2,a < b := fun b hb => by
 have h1 : ((List.range n).filter p).Pairwise (· < ·) := List.Pairwise.filter _ List.pairwise_lt_range
 rw [e,List.pairwise_append] at h1
 exact (List.pairwise_cons.1 h1.2.1).1 b hb
theorem JC.norm (k : FL l bf R) (hK : ∀ fr fr' h,FE fr fr' → K fr h → K fr' h) (hc : clsd bf S) : ∀ (N : Nat) (Pd : Nat → Bool) (m : Emb) (fr : Fr) (h : Heap),((List.range l.length).filter Pd).length ≤ N → JC P w0 ws r lr nt Z Bs m0 h0 l R K S Pd m fr h a w →
 ∃ Pd m fr h,JC P w0 ws r lr nt Z Bs m0 h0 l R K S Pd m fr h a w ∧ ∀ f,Pd f = true → aEb l S f := by
 intro N
 induction N with
 | zero =>
  intro Pd m fr h hn j
  refine ⟨Pd,m,fr,h,j,fun f hf => ?_⟩
  have : f ∈ (List.range l.length).filter Pd := List.mem_filter.2 ⟨List.mem_range.2 (j.ps f hf).2,hf⟩
  rw [List.eq_nil_of_length_eq_zero (Nat.le_zero.1 hn)] at this
  cases this
 | succ N ih =>
  intro Pd m fr h hn j
  by_cases hx : ∃ f,Pd f = true ∧ ¬ aEb l S f
  · obtain ⟨f,⟨hf,hnb⟩,hmin⟩ := least hx
    obtain ⟨hSf,hfl⟩ := j.ps f hf
    obtain ⟨c,hpn,hcd⟩ := j.pd
    obtain ⟨fr0,hfr,hw⟩ := j.wp
    have pf := hpn f hf
    obtain ⟨t,z,d,n,q,x,⟨e1,e1k⟩,e2,e3,e4⟩ := pf.ex
    obtain ⟨z1,z2,_,z4,z5,z6,z7⟩ := kP e1k
    obtain ⟨B,s1,s2⟩ := qU (n := l.length) (f := fun i => !S i || Pd i) hfl (by simp [hf])
    rw [s1] at hw
    have hA : ∀ u ∈ (List.range f).filter fun i => !S i || Pd i,∀ y,l[u]? = some y → u < f ∧ Ap x y ∧ kq y = true := fun u hu y hy => by
     obtain ⟨h1,h2⟩ := List.mem_filter.1 hu
     have h1 := List.mem_range.1 h1
     have hPu : Pd u = false := by
      cases e : Pd u with
      | false => rfl
      | true =>
       have := hmin u h1
       simp only [e,true_and,Classical.not_not] at this
       obtain ⟨q,x,q1,q2,q3,q4⟩ := this
       exact absurd ⟨q,x,by omega,q2,q3,q4⟩ hnb
     have hSu : S u = false := by simpa [hPu] using h2
     have hq : kq y = true := by
      cases e : kq y with
      | true => rfl
      | false => exact absurd ⟨u,y,h1,hSu,hy,e⟩ hnb
     refine ⟨h1,k.ap (by omega) e1 hy ?_ ?_,hq⟩
     · cases e : bf f u with
       | false => rfl
       | true => have := hc f u hSf e; rw [hSu] at this; cases this
     · cases e : bf u f with
       | false => rfl
       | true => have := k.lt (by omega) e; omega
    have hw2 := ((z7 _ _ _ _).1 _).1 (mv_e hK e1 (fun A1 a A2 e y hy => by
     have ha : a ∈ (List.range f).filter fun i => !S i || Pd i := by rw [e]; simp
     obtain ⟨a1,a2,a3⟩ := hA a ha y hy
     refine ⟨a2,a3,k.rq a y hy a3,.inr (.inl z5),fun b hb w hw t ht => ?_⟩
     have hb2 : b ∈ (List.range f).filter fun i => !S i || Pd i := by rw [e]; simp [hb]
     have hab := aBJ e b hb
     have hbl := aI hw
     exact fun ht2 => k.ds a b t (by omega) hbl (by omega) (by simp [bJ,hy,ht]) (by simp [bJ,hw,ht2])) hw)
    rw [z1] at hw2
    obtain ⟨sa1,st1⟩ := j.sa.tell z4 j.st e2 e3 e4 pf.g1 pf.g2 pf.ne
    have hpd' : ∀ g,(Pd g && !Nat.beq g f) = true → Pd g = true ∧ g ≠ f := fun g hg => by
     simp only [Bool.and_eq_true,Bool.not_eq_true'] at hg
     exact ⟨hg.1,fun e => by subst e; rw [Nat.beq_refl] at hg; exact absurd hg.2 (by simp)⟩
    refine ih (fun i => Pd i && !Nat.beq i f) _ _ _ (by have := aGe hfl hf; omega) ⟨sa1,st1,?_,⟨c,fun g hg => ?_,fun g g' hg hg' => hcd g g' (hpd' g hg).1 (hpd' g' hg').1⟩,fun g hg => j.ps g (hpd' g hg).1⟩
    · refine ⟨fr0.put (some t) (vz (.own h.length 0) q),fun s hs => ?_,?_⟩
      · by_cases e : s = t
        · subst e; rw [bY,bY]
        · rw [bB (fun u hu e2 => by cases hu; exact e e2.symm),bB (fun u hu e2 => by cases hu; exact e e2.symm)]
          refine hfr s fun g hg hd => ?_
          by_cases eg : g = f
          · subst eg; simp [bJ,e1,z1] at hd; exact e hd.symm
          · refine hs g ?_ hd
            have : Nat.beq g f = false := by
             cases hb : Nat.beq g f with
             | false => rfl
             | true => exact absurd (bD.1 hb) eg
            simp [hg,this]
      · rw [s2 (fun i => !S i || (Pd i && !Nat.beq i f)) (fun q hq => ?_) (by simp [hSf,Nat.beq_refl])]
        · exact hw2
        · have : Nat.beq q f = false := by
           cases hb : Nat.beq q f with
           | false => rfl
           | true => exact absurd (bD.1 hb) hq
          simp [this]
    · obtain ⟨hg1,hg2⟩ := hpd' g hg
      have pg := hpn g hg1
      obtain ⟨t',z',d',n',q',x',q1,q2,q3,q4⟩ := pg.ex
      have htt : t' ≠ t := fun e => by
       subst e
       exact k.ds f g t' hfl (j.ps g hg1).2 hg2 (by simp [bJ,e1,z1]) (by simp [bJ,q1.1,(kP q1.2).1])
      refine ⟨⟨t',z',d',n',q',x',q1,q2,by rw [bB (fun u hu e => by cases hu; exact htt e.symm)]; exact q3,vH q2 q4⟩,pg.g1,pg.g2,fun i b hi => ?_⟩
      rcases Nat.lt_or_ge i h.length with h1 | h1
      · rw [List.getElem?_append_left h1] at hi
        simpa [Emb.put,Nat.ne_of_lt h1] using pg.ne i b hi
      · have hil := aI hi
        simp only [List.length_append,List.length_singleton] at hil
        obtain rfl : i = h.length := by omega
        simp only [Emb.put,if_true]
        exact hcd f g hf hg1 hg2.symm
  · exact ⟨Pd,m,fr,h,j,fun f hf => Classical.byContradiction fun hn => hx ⟨f,hf,hn⟩⟩
def JN (P : Program) (w0 ws : World) (r lr : Option Nat) (nt Z : Nat) (Bs : Ab.Bs) (m0 : Emb) (h0 : Heap) (l : List MIx) (R : Nat → List Nat) (K : Fr → Heap → Prop) (S : Nat → Bool) (a : Act) (w : World) : Prop :=
 ∃ Pd m fr h,JC P w0 ws r lr nt Z Bs m0 h0 l R K S Pd m fr h a w ∧ ∀ f,Pd f = true → aEb l S f
theorem JC.n (j : JC P w0 ws r lr nt Z Bs m0 h0 l R K S Pd m fr h a w) (k : FL l bf R) (hK : ∀ fr fr' h,FE fr fr' → K fr h → K fr' h) (hc : clsd bf S) : JN P w0 ws r lr nt Z Bs m0 h0 l R K S a w := JC.norm k hK hc _ Pd m fr h (Nat.le_refl _) j
theorem aEZ {x : MIx} {K' : AV → Heap → Prop} {K : Fr → Heap → Prop} (e : opV P w0 x fr h K') (hk : ∀ v h',K' v h' → K (fr.put x.dst v) h') : iH P w0 [x] fr h K := by
 cases x with
 | op d g o =>
  simp only [opV] at e
  simp only [iH]
  split at e <;> rename_i hw <;> rw [hw]
  · obtain ⟨v,h',e1,e2⟩ := e; exact ⟨v,h',e1,hk _ _ e2⟩
  · exact hk _ _ e
  · exact e
 | call d g f as =>
  simp only [opV] at e
  simp only [iH]
  split at e <;> rename_i hw <;> rw [hw]
  · exact aS.mono e fun v h' q => hk v h' q
  · exact hk _ _ e
  · exact e
theorem nM {S : Nat → Bool} {i j : Nat} (h : S j = true) : cP S i j = true := by simp [cP,h]
theorem gD {S : Nat → Bool} {i j : Nat} (h : j ≠ i) : cP S i j = S j := by
 have : Nat.beq j i = false := by
  cases hb : Nat.beq j i with
  | false => rfl
  | true => exact absurd (bD.1 hb) h
 simp [cP,this]
theorem jJ {S : Nat → Bool} {i : Nat} : cP S i i = true := by simp [cP,Nat.beq_refl]
theorem aJp (k : FL l bf R) (hK : ∀ fr fr' h,FE fr fr' → K fr h → K fr' h) (hc : clsd bf S) {i : Nat} {x : MIx} {ops : Array Oper} {o : Oper} (hi : l[i]? = some x) (hS : S i = false) (hb : ∀ j,bf i j = true → S j = true) (hx : dZ P nt ops o = some x)
 (j : JN P w0 ws r lr nt Z Bs m0 h0 l R K S a w) {Q : Exit → Act → World → Prop} {next : Act → World → Prop} (hn : ∀ a' w',JN P w0 ws r lr nt Z Bs m0 h0 l R K (cP S i) a' w' → next a' w') :
 if Region.wanted o (yielded ops a.tmps) then o.wpIn (Wd lr) 0 P a w next Q else (∀ f,o.about P w a.eval = some f → (Wd lr).fn f) ∧ next (a.put o.dst undef) w := by
 obtain ⟨Pd,m,fr,h,j,hbl⟩ := j
 obtain ⟨c,hpn,hcd⟩ := j.pd
 obtain ⟨fr0,hfr,hw⟩ := j.wp
 have hil := aI hi
 have hc' : clsd bf (cP S i) := fun p q hp hq => by
  by_cases e : p = i
  · subst e; exact nM (hb q hq)
  · rw [gD e] at hp; exact nM (hc p q hp hq)
 have hPi : Pd i = false := by
  cases e : Pd i with
  | false => rfl
  | true => have := (j.ps i e).1; rw [hS] at this; cases this
 have hun : ∀ u,u < i → S u = false → bf i u = false ∧ bf u i = false := fun u hu hSu => by
  constructor
  · cases e : bf i u with
    | false => rfl
    | true => have := hb u e; rw [hSu] at this; cases this
  · cases e : bf u i with
    | false => rfl
    | true => have := k.lt (by omega) e; omega
 have hnop : ¬ aEb l S i → ∀ f,Pd f = true → i < f := fun hq f hf => by
  obtain ⟨e,y,e1,e2,e3,e4⟩ := hbl f hf
  rcases Nat.lt_trichotomy f i with h1 | h1 | h1
  · exact absurd ⟨e,y,by omega,e2,e3,e4⟩ hq
  · subst h1; rw [hPi] at hf; cases hf
  · exact h1
 have hApd : (nra l x = true ∨ ∀ f,Pd f = true → i < f) → ∀ f,Pd f = true → ∃ y,l[f]? = some y ∧ Ap x y := fun hor f hf => by
  obtain ⟨t,z,d,n,q,y,⟨e1,e1k⟩,_⟩ := (hpn f hf).ex
  obtain ⟨z1,z2,_⟩ := kP e1k
  have hfi : f ≠ i := fun e => by subst e; rw [hPi] at hf; cases hf
  refine ⟨y,e1,?_⟩
  rcases hor with hn | hp
  · refine ⟨fun s _ => by rw [z2]; exact List.not_mem_nil,fun s hs hm => ?_,fun s h1 h2 => k.ds i f s hil (j.ps f hf).2 hfi (by simp [bJ,hi,h1]) (by simp [bJ,e1,h2])⟩
    rw [z1] at hs; cases hs
    have := List.all_eq_true.1 hn y (List.mem_of_getElem? e1)
    rw [e1k] at this
    simp [hm] at this
  · have hif := hp f hf
    refine k.ap (by omega) hi e1 ?_ ?_
    · cases e : bf i f with
      | false => rfl
      | true => have := k.lt hil e; omega
    · cases e : bf f i with
      | false => rfl
      | true => have := hc f i (j.ps f hf).1 e; rw [hS] at this; cases this
 have hps' : ∀ f,Pd f = true → cP S i f = true ∧ f < l.length := fun f hf => ⟨nM (j.ps f hf).1,(j.ps f hf).2⟩
 obtain ⟨B,s1,s2⟩ := qU (n := l.length) (f := fun i => !S i || Pd i) hil (by simp [hS])
 have s3 : rem l.length (fun q => !cP S i q || Pd q) = ((List.range i).filter fun i => !S i || Pd i) ++ B := s2 _ (fun q hq => by rw [gD hq]) (by simp [jJ,hPi])
 have hrd : (nra l x = true ∨ ∀ f,Pd f = true → i < f) → ∀ t ∈ x.rds,fr0.get t = fr.get t := fun hp t ht => by
  refine (hfr t fun f hf hd => ?_).symm
  obtain ⟨y,hy,hap⟩ := hApd hp f hf
  exact hap.b t (by simpa [bJ,hy] using hd) ht
 have hpd2 : (nra l x = true ∨ ∀ f,Pd f = true → i < f) → ∀ {m' : Emb} {h' : Heap} {w' : World} {v : AV},bO w0 m m' h h' w w' → ∀ f,Pd f = true → Pnd w0 ws l m' (fr.put x.dst v) h' w' f (c f) := fun hp {m' h' w' v} s f hf => by
  refine (hpn f hf).step s fun t ht => bB fun u hu e => ?_
  subst e
  obtain ⟨y,hy,hap⟩ := hApd hp f hf
  exact hap.c u hu (by simpa [bJ,hy] using ht)
 have hfr2 : (nra l x = true ∨ ∀ f,Pd f = true → i < f) → ∀ v t,(∀ f,Pd f = true → bJ l f ≠ some t) → (fr.put x.dst v).get t = (fr0.put x.dst v).get t := fun hp v t ht => by
  cases hd : x.dst with
  | none => exact hfr t ht
  | some u =>
   by_cases e : t = u
   · subst e; rw [bY,bY]
   · rw [bB (fun q hq e2 => by cases hq; exact e e2.symm),bB (fun q hq e2 => by cases hq; exact e e2.symm)]; exact hfr t ht
 have hR : ∀ a,a < i → ∀ u ∈ R a,∀ z,l[u]? = some z → ∀ t,x.dst = some t → t ∉ z.rds ∧ z.dst ≠ some t := fun a ha u hu z hz t ht => by
  have hua := k.ru a u hu
  exact ⟨k.ro a u hu z hz i x (by omega) hi t ht,fun h2 => k.ds i u t hil (aI hz) (by omega) (by simp [bJ,hi,ht]) (by simp [bJ,hz,h2])⟩
 have later : ∀ {A1 A2 : List Nat} {a : Nat},((List.range i).filter fun i => !S i || Pd i) = A1 ++ a :: A2 → ∀ y,l[a]? = some y → ∀ b ∈ A2,∀ z,l[b]? = some z → ∀ t,y.dst = some t → z.dst ≠ some t := fun {A1 A2 a} e y hy b hb z hz t ht h2 => by
  have hab := aBJ e b hb
  exact k.ds a b t (aI hy) (aI hz) (by omega) (by simp [bJ,hy,ht]) (by simp [bJ,hz,h2])
 cases hqx : kq x with
 | true =>
  have hor : nra l x = true ∨ ∀ f,Pd f = true → i < f := by
   by_cases hbk : aEb l S i
   · obtain ⟨e,y,e1,e2,e3,e4⟩ := hbk
     rcases k.pair e1 e3 hi (hun e e1 e2).1 with h1 | h1 | h1 | h1
     · rw [h1.1] at e4; cases e4
     · rw [h1.2.1] at hqx; cases hqx
     · obtain ⟨⟨_,_,_⟩,hz⟩ := Option.isSome_iff_exists.1 h1
       rw [(kP hz).2.2.2.2.2.1] at hqx; cases hqx
     · exact .inl h1.2.2.1
   · exact .inr (hnop hbk)
  rw [s1] at hw
  have hop := mv_q hK hi hqx _ _ _ (.inr fun t ht => by rw [hrd hor t ht]; exact (j.sa.frame t).2) (fun u hu y hy => by
   obtain ⟨h1,h2⟩ := List.mem_filter.1 hu
   have h1 := List.mem_range.1 h1
   cases hSu : S u with
   | false =>
    refine ⟨k.ap (by omega) hi hy (hun u h1 hSu).1 (hun u h1 hSu).2,?_,hR u h1⟩
    rcases k.pair h1 hy hi (hun u h1 hSu).1 with h3 | h3 | h3 | h3
    · exact .inr (kq_kg h3.1)
    · rw [h3.2.1] at hqx; cases hqx
    · obtain ⟨⟨_,_,_⟩,hz⟩ := Option.isSome_iff_exists.1 h3
      rw [(kP hz).2.2.2.2.2.1] at hqx; cases hqx
    · exact h3.2.2.2
   | true =>
    have hPu : Pd u = true := by simpa [hSu] using h2
    obtain ⟨y',hy',hap⟩ := hApd hor u hPu
    rw [hy] at hy'; cases hy'
    obtain ⟨t,z,d,n,q,y',⟨e1,e1k⟩,_⟩ := (hpn u hPu).ex
    rw [hy] at e1; cases e1
    refine ⟨hap,.inr ?_,hR u h1⟩
    unfold kg; split
    · rfl
    · rw [(kP e1k).2.2.2.2.1]; simp) hw
  refine tB (P := P) (ops := ops) (K := fun fr' h' => ∃ v,fr' = fr.put x.dst v ∧ wli P w0 l R (((List.range i).filter fun i => !S i || Pd i) ++ B) (fr0.put x.dst v) h' K) hx j.sa (aEZ (eJ (hrd hor) hop) fun v h' e => ⟨v,rfl,by rw [e.1]; exact e.2⟩) fun m' fr' h' a' w' s sa' e _ => hn a' w' ?_
  obtain ⟨v,rfl,hw2⟩ := e
  exact JC.n (Pd := Pd) ⟨sa',j.st.trans (s.toZ j.sa.hz),⟨_,hfr2 hor _,by rw [s3]; exact hw2⟩,⟨c,hpd2 hor s,hcd⟩,hps'⟩ k hK hc'
 | false =>
 cases hka : kz x with
 | some tz =>
  obtain ⟨t,z,q⟩ := tz
  obtain ⟨z1,z2,hz,z4,z5,z6,z7⟩ := kP hka
  refine tB (P := P) (ops := ops) (K := fun fr' h' => fr' = fr.put (some t) (vz (.own h.length 0) q) ∧ h' = h ++ [some (.row z)]) hx j.sa ((z7 _ _ _ _).2 _ (by rw [z1]; exact ⟨rfl,rfl⟩)) fun m' fr' h' a' w' s sa' e _ => hn a' w' ?_
  obtain ⟨rfl,rfl⟩ := e
  by_cases hbk : aEb l S i
  · -- nobody tells of it yet
    have hsd := s.drop (Nat.le_refl _) fun i b hi => (j.sa.sim.at_ i b hi).2.2
    have hgl : (h ++ [some (Blk.row z)])[h.length]? = some (some (.row z)) := by simp
    have hne : ∀ (q : Nat) b,h[q]? = some (some b) → m'.blk q ≠ m'.blk h.length := fun q b hq => s.sim.inj q h.length b (.row z) (by have := aI hq; omega) (aA hq) hgl
    have hcl : w.heap.size ≤ m'.blk h.length := by
     rcases Nat.lt_or_ge (m'.blk h.length) w.heap.size with h1 | h1
     · obtain ⟨q,b,hq,e⟩ := s.roots _ _ hgl h1
       have := hne q b hq
       rw [(s.ext q (aI hq)).1] at this
       exact absurd e this
     · exact h1
    have hSA : SA w0 r lr nt Z Bs m' (fr.put (some t) (vz (.old ⟨m'.blk h.length,m'.base h.length,none⟩) q)) h a' w' := by
     have h1 := sa'.drop (fr' := fr.put (some t) .undef) (fun i b hi => (j.sa.sim.at_ i b hi).2.2) j.sa.hz (fun q => ?_) (fun q => ?_)
     · refine ⟨h1.sim,fun s => ?_,h1.size,h1.low,h1.marks,h1.rnd,h1.inr,h1.hz⟩
       by_cases e : s = t
       · subst e
         have h2 := (sa'.frame s).1
         rw [bY] at h2 ⊢
         exact ⟨vz_old h2,aEn trivial⟩
       · have := h1.frame s
         rwa [bB (fun u hu e2 => by cases hu; exact e e2.symm)] at this ⊢
     · by_cases e : q = t
       · subst e; rw [bY]; simp [AV.bdd]
       · rw [bB (fun u hu e2 => by cases hu; exact e e2.symm)]; exact (j.sa.frame q).2
     · by_cases e : q = t
       · subst e; rw [bY]; exact .inl rfl
       · right; rw [bB (fun u hu e2 => by cases hu; exact e e2.symm),bB (fun u hu e2 => by cases hu; exact e e2.symm)]
    have hold : ∀ f,Pd f = true → f ≠ i := fun f hf e => by subst e; rw [hPi] at hf; cases hf
    have htf : ∀ f,Pd f = true → bJ l f ≠ some t := fun f hf => k.ds i f t hil (j.ps f hf).2 (hold f hf) (by simp [bJ,hi,z1])
    have hwi : ∀ f,cP Pd i f = true → f = i ∨ (f ≠ i ∧ Pd f = true) := fun f hf => by
     by_cases e : f = i
     · exact .inl e
     · rw [gD e] at hf; exact .inr ⟨e,hf⟩
    refine JC.n (Pd := cP Pd i) ⟨hSA,j.st.trans (hsd.toZ j.sa.hz),⟨fr0,fun s hq => ?_,?_⟩,⟨fun f => if f = i then m'.blk h.length else c f,fun f hf => ?_,fun f g hf hg hfg => ?_⟩,fun f hf => ?_⟩ k hK hc'
    · have hqt : s ≠ t := fun e => by subst e; exact hq i jJ (by simp [bJ,hi,z1])
      rw [bB (fun u hu e2 => by cases hu; exact hqt e2.symm)]
      exact hfr s fun f hf => hq f (nM hf)
    · rw [wC (f := fun i => !S i || Pd i)]
      · exact hw
      · intro q _
        by_cases e : q = i
        · subst e; simp [jJ,hS]
        · rw [gD e,gD e]
    · rcases hwi f hf with rfl | ⟨hfi,hf⟩
      · simp only [if_true]
        obtain ⟨k1,k2,_⟩ := s.sim.at_ _ _ hgl
        exact ⟨⟨t,z,m'.base h.length,m'.sz h.length,q,x,⟨hi,hka⟩,hz,bY,k2⟩,k1,Nat.le_trans j.st.mods.size hcl,hne⟩
      · simp only [if_neg hfi]
        exact (hpn f hf).step hsd fun q hq => bB fun u hu e => by
         cases hu; subst e; exact htf f hf hq
    · rcases hwi f hf with e1 | ⟨hfi,hf2⟩ <;> rcases hwi g hg with e2 | ⟨hgi,hg2⟩
      · exact absurd (e1.trans e2.symm) hfg
      · have := (hpn g hg2).lt
        simp only [if_pos e1,if_neg hgi]; omega
      · have := (hpn f hf2).lt
        simp only [if_pos e2,if_neg hfi]; omega
      · simp only [if_neg hfi,if_neg hgi]; exact hcd f g hf2 hg2 hfg
    · rcases hwi f hf with rfl | ⟨hfi,hf⟩
      · exact ⟨jJ,hil⟩
      · exact hps' f hf
  · have hq : ∀ u y,u < i → S u = false → l[u]? = some y → kq y = true := fun u y hu hSu hy => by
     cases e : kq y with
     | true => rfl
     | false => exact absurd ⟨u,y,hu,hSu,hy,e⟩ hbk
    have hp := hnop hbk
    rw [s1] at hw
    have hw2 := ((z7 _ _ _ _).1 _).1 (mv_e hK hi (fun A1 u A2 e y hy => by
     have hu : u ∈ (List.range i).filter fun i => !S i || Pd i := by rw [e]; simp
     obtain ⟨h1,h2⟩ := List.mem_filter.1 hu
     have h1 := List.mem_range.1 h1
     have hPu : Pd u = false := by
      cases e : Pd u with
      | false => rfl
      | true => have := hp u e; omega
     have hSu : S u = false := by simpa [hPu] using h2
     exact ⟨k.ap (by omega) hi hy (hun u h1 hSu).1 (hun u h1 hSu).2,hq u y h1 hSu hy,k.rq u y hy (hq u y h1 hSu hy),.inr (.inl z5),later e y hy⟩) hw)
    have h1 := hfr2 (.inr hp) (vz (.own h.length 0) q)
    have h2 := hpd2 (.inr hp) (v := vz (.own h.length 0) q) s
    rw [z1] at h1 h2 hw2
    exact JC.n (Pd := Pd) ⟨sa',j.st.trans (s.toZ j.sa.hz),⟨_,h1,by rw [s3]; exact hw2⟩,⟨c,h2,hcd⟩,hps'⟩ k hK hc'
 | none =>
  have hq : ∀ u y,u < i → S u = false → l[u]? = some y → kq y = true ∧ (kp y = true ∨ kb x = true ∨ u ∈ R i) := fun u y hu hSu hy => by
   rcases k.pair hu hy hi (hun u hu hSu).1 with h1 | h1 | h1 | h1
   · rw [h1.2] at hqx; cases hqx
   · exact ⟨h1.1,h1.2.2⟩
   · rw [hka] at h1; cases h1
   · rw [h1.2.1] at hqx; cases hqx
  have hp := hnop fun ⟨e,y,e1,e2,e3,e4⟩ => by rw [(hq e y e1 e2 e3).1] at e4; cases e4
  rw [s1] at hw
  have hop := mv_e hK hi (fun A1 u A2 e y hy => by
   have hu : u ∈ (List.range i).filter fun i => !S i || Pd i := by rw [e]; simp
   obtain ⟨h1,h2⟩ := List.mem_filter.1 hu
   have h1 := List.mem_range.1 h1
   have hPu : Pd u = false := by
    cases e : Pd u with
    | false => rfl
    | true => have := hp u e; omega
   have hSu : S u = false := by simpa [hPu] using h2
   obtain ⟨q1,q2⟩ := hq u y h1 hSu hy
   refine ⟨k.ap (by omega) hi hy (hun u h1 hSu).1 (hun u h1 hSu).2,q1,k.rq u y hy q1,?_,later e y hy⟩
   rcases q2 with q2 | q2 | q2
   · exact .inl q2
   · exact .inr (.inl q2)
   · refine .inr (.inr ⟨q2,fun b hb z hz t ht => k.ro i u q2 y hy b z ?_ hz t ht⟩)
     rcases List.mem_cons.1 hb with rfl | hb
     · exact Nat.le_refl _
     · exact Nat.le_of_lt (aBJ e b hb)) hw
  refine tB (P := P) (ops := ops) (K := fun fr' h' => ∃ v,fr' = fr.put x.dst v ∧ wli P w0 l R (((List.range i).filter fun i => !S i || Pd i) ++ B) (fr0.put x.dst v) h' K) hx j.sa (aEZ (eJ (hrd (.inr hp)) hop) fun v h' e => ⟨v,rfl,e⟩) fun m' fr' h' a' w' s sa' e _ => hn a' w' ?_
  obtain ⟨v,rfl,hw2⟩ := e
  exact JC.n (Pd := Pd) ⟨sa',j.st.trans (s.toZ j.sa.hz),⟨_,hfr2 (.inr hp) _,by rw [s3]; exact hw2⟩,⟨c,hpd2 (.inr hp) s,hcd⟩,hps'⟩ k hK hc'
end
end Go.Proofs.Ab
namespace Go.Proofs.Ab
open Go
section
variable {P : Program} {w0 ws : World} {r lr : Option Nat} {nt Z : Nat} {Bs : Bs} {m m' m0 : Emb} {fr fr' : Fr} {h h' h0 : Heap} {a a' : Act} {w w' : World} {l : List MIx} {bef : List (List Nat)} {n : Nat}
theorem aDZ {ops : Array Oper} (b : BOK ops l bef n)
 (hx : ∀ (i : Nat) o,ops[i]? = some o → ∃ x,l[i]? = some x ∧ dZ P nt ops o = some x)
 (J : (Nat → Bool) → Act → World → Prop) {Q : Exit → Act → World → Prop}
 (hv : ∀ S i x o a w,ops[i]? = some o → l[i]? = some x → dZ P nt ops o = some x → S i = false → (∀ j,bfr bef i j = true → S j = true) → clsd (bfr bef) S → J S a w → ∀ next : Act → World → Prop,(∀ a' w',J (cP S i) a' w' → next a' w') →
  if Region.wanted o (yielded ops a.tmps) then o.wpIn (Wd lr) 0 P a w next Q else (∀ f,o.about P w a.eval = some f → (Wd lr).fn f) ∧ next (a.put o.dst undef) w)
 (hQ : ∀ S a w,(∀ i,i < n → S i = true) → J S a w → Q .normal a w) :
 ∀ (fuel : Nat) (listed : Array Bool) (a : Act) (w' : World),listed.size = n → listed.toList.count false ≤ fuel → (∀ i j,listed.getD i false = true → bfr bef i j = true → listed.getD j false = true) →
  J (fun j => listed.getD j false) a w' → wpAnyIn (Wd lr) 0 P .any ops Q fuel listed a w' := by
 have hgd : ∀ (listed : Array Bool) (i : Nat),listed.size = n → i < n → listed.getD i true = listed.getD i false := fun listed i h1 h2 => by
  rw [Array.getD_eq_getD_getElem?,Array.getD_eq_getD_getElem?,Array.getElem?_eq_getElem (by omega)]; rfl
 have hdone : ∀ (listed : Array Bool) (a : Act) (w' : World),listed.size = n → Region.ready .any ops listed = [] → J (fun j => listed.getD j false) a w' → Q .normal a w' := by
  intro listed a w' hls hr j
  have hall : ∀ i,i < n → listed.getD i false = true := by
   intro i
   induction i using Nat.strongRecOn with
   | ind i ih =>
    intro hi
    cases hli : listed.getD i false with
    | true => rfl
    | false =>
     exfalso
     obtain ⟨o,ho⟩ : ∃ o,ops[i]? = some o := ⟨_,Array.getElem?_eq_getElem (by rw [b.size]; exact hi)⟩
     have : i ∈ Region.ready .any ops listed := mem_ready.2 ⟨by rw [hgd listed i hls hi]; exact hli,o,ho,fun e he hb => by
      have := b.edge i o ho e he hb
      exact ih e.on this (by omega)⟩
     rw [hr] at this; cases this
  exact hQ _ _ _ hall j
 intro fuel
 induction fuel with
 | zero =>
  intro listed a w' hls hc hcl j
  have hr : Region.ready .any ops listed = [] := by
   rw [List.eq_nil_iff_forall_not_mem]
   intro i hi
   obtain ⟨h1,o,ho,_⟩ := mem_ready.1 hi
   have hin : i < n := by
    rw [← b.size]
    rcases Nat.lt_or_ge i ops.size with hlt | hge
    · exact hlt
    · rw [Array.getElem?_eq_none hge] at ho; cases ho
   have : false ∉ listed.toList := List.count_eq_zero.1 (by omega)
   apply this
   rw [Array.getD_eq_getD_getElem?,Array.getElem?_eq_getElem (by omega)] at h1
   simp at h1
   rw [← h1]
   simp
  exact ⟨hr,hdone listed a w' hls hr j⟩
 | succ fuel ih =>
  intro listed a w' hls hc hcl j
  refine ⟨fun hr => hdone listed a w' hls hr j,fun i hi => ?_⟩
  obtain ⟨h1,o,ho,hall⟩ := mem_ready.1 hi
  have hin : i < n := by
   rw [← b.size]
   rcases Nat.lt_or_ge i ops.size with hlt | hge
   · exact hlt
   · rw [Array.getElem?_eq_none hge] at ho; cases ho
  obtain ⟨x,hxl,hxc⟩ := hx i o ho
  have hs : listed.getD i false = false := by rw [← hgd listed i hls hin]; exact h1
  have hb : ∀ j,bfr bef i j = true → listed.getD j false = true := fun j hj => by
   obtain ⟨e,he,hbd,h2⟩ := b.bef_ i o ho j hj
   have h3 := hall e he hbd
   rcases h2 with rfl | h2
   · exact h3
   · exact hcl _ _ h3 h2
  have hset : ∀ j,(listed.setIfInBounds i true).getD j false = cP (fun j => listed.getD j false) i j := fun j => by
   simp only [cP,Array.getD_eq_getD_getElem?]
   by_cases e : j = i
   · subst e
     simp [hls,hin]
   · rw [Array.getElem?_setIfInBounds_ne (fun e' => e e'.symm)]
     have : Nat.beq j i = false := by
      cases hb : Nat.beq j i with
      | false => rfl
      | true => exact absurd (bD.1 hb) e
     simp [this]
  unfold wpOpIn
  rw [ho]
  refine hv _ i x o a w' ho hxl hxc hs hb hcl j _ fun a2 w2 j2 => ?_
  refine ih (listed.setIfInBounds i true) a2 w2 (by simp [hls]) ?_ ?_ (by rw [show (fun j => (listed.setIfInBounds i true).getD j false) = cP (fun j => listed.getD j false) i from funext hset]; exact j2)
  · have hil : i < listed.toList.length := by simp [hls,hin]
    have hf : listed.toList[i] = false := by
     rw [Array.getD_eq_getD_getElem?,Array.getElem?_eq_getElem (by omega)] at hs
     simpa using hs
    have hpos : 0 < listed.toList.count false := List.count_pos_iff.2 (by rw [← hf]; exact List.getElem_mem hil)
    rw [Array.toList_setIfInBounds,List.count_set hil,hf]
    have e1 : (false == false) = true := rfl
    have e2 : (true == false) = false := rfl
    rw [e1,e2,if_pos rfl,if_neg (by simp)]
    omega
  · intro p q hp hq
    rw [hset] at hp ⊢
    simp only [cP,Bool.or_eq_true] at hp ⊢
    rcases hp with hp | hp
    · rw [bD.1 hp] at hq; exact .inr (hb q hq)
    · exact .inr (hcl p q hp hq)
theorem xG {R : Nat → List Nat} {N : Fr → Heap → Prop} {is : List Nat} {K : Fr → Heap → Prop} : ∀ (suf pre post : List MIx) (fr fr1 : Fr) (h : Heap),l = pre ++ suf ++ post → FE fr fr1 → (∀ p,pre.length ≤ p → p + 1 < pre.length + suf.length → R p = []) →
 (∀ fr fr1 h,FE fr fr1 → N fr h → (suf ≠ [] → aAG P w0 l (R (pre.length + suf.length - 1)) fr1 h) ∧ wli P w0 l R is fr1 h K) → vc P w0 suf fr h N → wli P w0 l R (List.range' pre.length suf.length ++ is) fr1 h K
 | [],pre,post,fr,fr1,h,_,e,_,hN,k => (hN fr fr1 h e k).2
 | x :: suf,pre,post,fr,fr1,h,el,e,hR,hN,k => by
  refine ⟨x,by rw [el]; simp,?_⟩
  have key : ∀ {fr' : Fr} {v : AV} {h' : Heap},FE fr fr' → vc P w0 suf (fr'.put x.dst v) h' N → aAG P w0 l (R pre.length) (fr1.put x.dst v) h' ∧ wli P w0 l R (List.range' (pre.length + 1) suf.length ++ is) (fr1.put x.dst v) h' K := fun {fr' v h'} e2 k => by
   have hfe := FE.put (e2.symm.trans e) x.dst v
   have h2 := xG suf (pre ++ [x]) post (fr'.put x.dst v) (fr1.put x.dst v) h' (by simp [el]) hfe (fun p h1 h2 => hR p (by simp at h1; omega) (by simp at h1 h2 ⊢; omega)) (fun f f1 g ef q => by
    have := hN f f1 g ef q
    refine ⟨fun hne => ?_,this.2⟩
    have := this.1 (by simp)
    have e3 : (pre ++ [x]).length + suf.length - 1 = pre.length + (x :: suf).length - 1 := by
     have : 0 < suf.length := List.length_pos_iff.2 hne
     simp only [List.length_append,List.length_cons,List.length_nil]; omega
    rw [e3]; exact this) k
   refine ⟨?_,by simpa using h2⟩
   by_cases hs : suf = []
   · subst hs
     simp only [vc] at k
     have := (hN _ _ _ hfe k).1 (by simp)
     simpa using this
   · rw [hR pre.length (Nat.le_refl _) (by have : 0 < suf.length := List.length_pos_iff.2 hs; simp; omega)]
     exact fun u hu => by cases hu
  cases x with
  | op d g o =>
   simp only [vc] at k
   simp only [opV]
   rcases eZ k with ⟨hw,fr',hfe,k⟩ | ⟨hw,fr',hfe,k⟩
   · rw [e.want,hw]
     unfold fQ at k
     split at k
     · rename_i p hp
       exact ⟨p.1,p.2,by rw [e.aop,← hfe.aop]; exact hp,key hfe k⟩
     · exact k.elim
   · rw [e.want,hw]
     exact key hfe k
  | call d g f as =>
   simp only [vc] at k
   simp only [opV]
   have hev : ∀ {fr' : Fr},FE fr fr' → f.ev fr' = f.ev fr1 ∧ as.map (·.ev fr') = as.map (·.ev fr1) := fun {fr'} hfe => by
    have h0 : ∀ o : Opd,o.ev fr' = o.ev fr1 := fun o => by
     cases o with
     | t n => simp only [Opd.ev]; rw [hfe n,e n]
     | k v => rfl
    exact ⟨h0 f,List.map_congr_left fun o _ => h0 o⟩
   rcases eZ k with ⟨hw,fr',hfe,k⟩ | ⟨hw,fr',hfe,k⟩
   · rw [e.want,hw]
     unfold aCH at k
     obtain ⟨h1,h2⟩ := hev hfe
     rw [h1,h2] at k
     exact k.mono fun v h' k => key hfe k
   · rw [e.want,hw]
     exact key hfe k
def pairB (l : List MIx) (x y : MIx) (i : Nat) (rj : List Nat) : Bool := (kq x && kq y) || ((kq x && (!kq y && (kp x || (kb y || rj.contains i)))) || ((kz y).isSome || (!kq x && (kq y && (nra l y && ((kp y && kd x) || kg x))))))
def aAx (l : List MIx) (bf : Nat → Nat → Bool) (R : Nat → List Nat) : Bool := (List.range l.length).all fun j =>
 ((List.range l.length).all fun i => !bf j i || Nat.blt i j) && (((List.range j).all fun i => bf j i || match l[i]?,l[j]? with
  | some x,some y => pairB l x y i (R j)
  | _,_ => false) && ((match l[j]? with
  | some x => !kq x || (R j).isEmpty
  | none => true) && (R j).all fun u => Nat.blt u j && match l[u]? with
   | some z => (List.range l.length).all fun b => Nat.blt b u || match (l[b]?).bind MIx.dst with
    | some t => !z.rds.contains t
    | none => true
   | none => true))
theorem FL.of {lp : List MIx} {bf : Nat → Nat → Bool} {R : Nat → List Nat} (h : aAx lp bf R = true) (hR : ∀ j,lp.length ≤ j → R j = []) (ap : ∀ {i j : Nat} {x y : MIx},i ≠ j → lp[i]? = some x → lp[j]? = some y → bf i j = false → bf j i = false → Ap x y)
 (ds : ∀ i j t,i < lp.length → j < lp.length → j ≠ i → bJ lp i = some t → bJ lp j ≠ some t) (hb : ∀ {i j : Nat},bf j i = true → i < lp.length) : FL lp bf R := by
 simp only [aAx,List.all_eq_true,List.mem_range,Bool.and_eq_true] at h
 have hRj : ∀ i u,u ∈ R i → i < lp.length := fun i u hu => by
  rcases Nat.lt_or_ge i lp.length with h1 | h1
  · exact h1
  · rw [hR i h1] at hu; cases hu
 refine ⟨fun {i j} hj e => ?_,fun {i j x y} hij hx hy hb => ?_,ap,ds,fun i x hx hq => ?_,fun i u hu => ?_,fun i u hu z hz b y hub hy t ht hm => ?_⟩
 · have := (h j hj).1 i (hb e)
   rw [e] at this
   simpa [Nat.blt_eq] using this
 · have := (h j (aI hy)).2.1 i hij
   rw [hb,hx,hy] at this
   simp only [Bool.false_or,pairB,Bool.or_eq_true,Bool.and_eq_true,Bool.not_eq_true',List.contains_eq_mem,decide_eq_true_eq] at this
   rcases this with h1 | h1 | h1 | h1
   · exact .inl h1
   · exact .inr (.inl h1)
   · exact .inr (.inr (.inl h1))
   · exact .inr (.inr (.inr h1))
 · have := (h i (aI hx)).2.2.1
   rw [hx] at this
   simpa [hq] using this
 · have := ((h i (hRj i u hu)).2.2.2 u hu).1
   simpa [Nat.blt_eq] using this
 · have := ((h i (hRj i u hu)).2.2.2 u hu).2
   rw [hz] at this
   simp only [List.all_eq_true,List.mem_range] at this
   have := this b (aI hy)
   rw [hy] at this
   simp only [Option.bind_some,ht,Bool.or_eq_true,Nat.blt_eq,Bool.not_eq_true',List.contains_eq_mem,decide_eq_false_iff_not] at this
   rcases this with h1 | h1
   · omega
   · exact h1 hm
theorem JN.congr {R : Nat → List Nat} {K : Fr → Heap → Prop} {S S' : Nat → Bool} (e : ∀ q,q < l.length → S q = S' q) (j : JN P w0 ws r lr nt Z Bs m0 h0 l R K S a w) : JN P w0 ws r lr nt Z Bs m0 h0 l R K S' a w := by
 obtain ⟨Pd,m,fr,h,j,hb⟩ := j
 refine ⟨Pd,m,fr,h,⟨j.sa,j.st,?_,j.pd,fun f hf => ?_⟩,fun f hf => ?_⟩
 · obtain ⟨fr0,h1,h2⟩ := j.wp
   exact ⟨fr0,h1,by rw [wC (f := fun i => !S i || Pd i) fun q hq => by rw [e q hq]]; exact h2⟩
 · obtain ⟨h1,h2⟩ := j.ps f hf
   exact ⟨by rw [← e f h2]; exact h1,h2⟩
 · obtain ⟨q,x,q1,q2,q3,q4⟩ := hb f hf
   exact ⟨q,x,q1,by rw [← e q (aI q3)]; exact q2,q3,q4⟩
def xW (n : Nat) (π : List Nat) : Bool := Nat.beq π.length n && (((List.range n).all fun i => π.contains i) && (π.all fun i => Nat.blt i n) && (List.range n).all fun p => (List.range p).all fun q => !Nat.beq (π.getD p 0) (π.getD q 0))
theorem aGV (hm : P.follows .mixedOrders = true) {π : List Nat} {lp : List MIx} {R : Nat → List Nat} (hp : xW l.length π = true) (hlp : π.map (fun i => l[i]?) = lp.map some) (hf : aAx lp (fun p q => Nat.blt p lp.length && (Nat.blt q lp.length && bfr bef (π.getD p 0) (π.getD q 0))) R = true) (hR : ∀ j,lp.length ≤ j → R j = [])
 {Q : Exit → Fr → Heap → Prop} (e : wli P w0 lp R (List.range lp.length) fr h fun fr h => ∃ fr2,FE fr2 fr ∧ Q .normal fr2 h) : EvM P w0 r nt Z (.draw l bef) fr h Q := fun c hc m a w B lr sa => by
 obtain ⟨id,ops,rfl,hl,rfl,hbo,hop⟩ := jY hc
 obtain ⟨hbok,hdst,hx⟩ := jZ hbo hl
 refine wpIn_region_any hm ?_
 have hsz := hbok.size
 have hdr : bO w0 m m h h w { w with drawn := w.drawn + 1 } :=
  ⟨⟨sa.sim.size,sa.sim.old,sa.sim.at_,sa.sim.inj⟩,.refl _ _,⟨Nat.le_refl _,fun _ _ _ => rfl,rfl,rfl,rfl⟩,Nat.le_refl _,fun i b hi _ => ⟨i,b,hi,rfl⟩⟩
 have e0 : (fun j => (Array.replicate ops.size false).getD j false) = fun _ => false := funext fun j => by
  rw [Array.getD_eq_getD_getElem?,Array.getElem?_replicate]; split <;> rfl
 simp only [xW,Bool.and_eq_true,List.all_eq_true,List.mem_range,List.contains_eq_mem,decide_eq_true_eq,Bool.not_eq_true'] at hp
 obtain ⟨hp1,⟨hp2,hp3⟩,hp4⟩ := hp
 have hp1 := bD.1 hp1
 have hlen : lp.length = l.length := by have := congrArg List.length hlp; simpa [hp1] using this.symm
 have hpl : ∀ p,p < l.length → π.getD p 0 < l.length := fun p hpp => by
  rw [List.getD_eq_getElem?_getD,List.getElem?_eq_getElem (by omega)]
  have := hp3 π[p] (List.getElem_mem (by omega))
  simpa [Nat.blt_eq] using this
 have hinj : ∀ p q,p < l.length → q < l.length → π.getD p 0 = π.getD q 0 → p = q := fun p q h1 h2 he => by
  rcases Nat.lt_trichotomy p q with h3 | h3 | h3
  · have := hp4 q h2 p h3; rw [he,Nat.beq_refl] at this; cases this
  · exact h3
  · have := hp4 p h1 q h3; rw [he,Nat.beq_refl] at this; cases this
 have hget : ∀ p,p < l.length → lp[p]? = l[π.getD p 0]? := fun p hpp => by
  have h1 : (π.map fun i => l[i]?)[p]? = (lp.map some)[p]? := by rw [hlp]
  rw [List.getElem?_map,List.getElem?_map,List.getElem?_eq_getElem (l := π) (by omega),List.getElem?_eq_getElem (l := lp) (by omega)] at h1
  simp only [Option.map_some,Option.some.injEq] at h1
  rw [List.getElem?_eq_getElem (by omega),← h1,List.getD_eq_getElem?_getD,List.getElem?_eq_getElem (l := π) (by omega)]; rfl
 have hd' : ∀ p,p < l.length → bJ lp p = bJ l (π.getD p 0) := fun p hpp => by simp only [bJ,hget p hpp]
 have k : FL lp (fun p q => Nat.blt p lp.length && (Nat.blt q lp.length && bfr (iC ops.toList) (π.getD p 0) (π.getD q 0))) R := by
  refine FL.of hf hR (fun {i j x y} hij hx hy h1 h2 => ?_) (fun i j t hi hj hij h1 => ?_) (fun {i j} h => ?_)
  · have hi := aI hx
    have hj := aI hy
    rw [hlen] at hi hj
    simp only [hlen,(Nat.blt_eq ▸ hi : Nat.blt i l.length = true),(Nat.blt_eq ▸ hj : Nat.blt j l.length = true),Bool.true_and] at h1 h2
    rw [hget i hi] at hx
    rw [hget j hj] at hy
    have hne : π.getD i 0 ≠ π.getD j 0 := fun e => hij (hinj i j hi hj e)
    have hfr : ∀ {i j : Nat},i ≠ j → bfr (iC ops.toList) i j = false → bfr (iC ops.toList) j i = false → hY (iC ops.toList) i j = true := fun {i j} hne h1 h2 => by
     have : Nat.beq j i = false := by
      cases hb : Nat.beq j i with
      | false => rfl
      | true => exact absurd (bD.1 hb).symm hne
     simp [hY,this,h1,h2]
    have key : ∀ {i j : Nat} {x y : MIx},l[i]? = some x → l[j]? = some y → hY (iC ops.toList) i j = true → ∀ t,y.dst = some t → t ∉ x.rds := fun {i j x y} hx hy hf t ht hm => by
     have := hop
     simp only [tZ,List.all_eq_true,List.mem_range] at this
     have := this i (aI hx)
     rw [hx] at this
     simp only [List.all_eq_true,List.mem_range] at this
     have := this j (aI hy)
     rw [hf,hy] at this
     simp only [Option.bind_some,ht,Bool.not_true,Bool.false_or,Bool.not_eq_true',List.contains_eq_mem,decide_eq_false_iff_not] at this
     exact this hm
    refine ⟨fun t ht => key hy hx (hfr hne.symm h2 h1) t ht,fun t ht => key hx hy (hfr hne h1 h2) t ht,fun t ht hd => ?_⟩
    exact hdst _ _ t (hpl i hi) (hpl j hj) hne.symm (by rw [bJ,hx]; exact ht) (by rw [bJ,hy]; exact hd)
  · rw [hlen] at hi hj
    rw [hd' i hi] at h1
    rw [hd' j hj]
    exact hdst _ _ t (hpl i hi) (hpl j hj) (fun e => hij (hinj j i hj hi e)) h1
  · simp only [Bool.and_eq_true,Nat.blt_eq] at h; exact h.2.1
 have hK : ∀ (fr fr' : Fr) (h : Heap),FE fr fr' → (∃ fr2,FE fr2 fr ∧ Q .normal fr2 h) → ∃ fr2,FE fr2 fr' ∧ Q .normal fr2 h := fun fr fr' h e ⟨fr2,e2,q⟩ => ⟨fr2,e2.trans e,q⟩
 refine aDZ hbok hx (fun S => JN P w0 w r lr nt Z B m h lp R (fun fr h => ∃ fr2,FE fr2 fr ∧ Q .normal fr2 h) fun p => S (π.getD p 0)) (fun S i x o a' w' ho hi hc hS hb hcl j next hn => ?_) (fun S a' w' hS ⟨Pd,m',fr',h',j,hbl⟩ => ?_) ops.size _ a _ (by simp [hsz]) (by simp) (fun i j hi _ => by rw [congrFun e0 i] at hi; cases hi) ?_
 · obtain ⟨p,hpp,hpi⟩ : ∃ p,p < l.length ∧ π.getD p 0 = i := by
    have := hp2 i (aI hi)
    obtain ⟨p,h1,h2⟩ := List.getElem_of_mem this
    exact ⟨p,by omega,by rw [List.getD_eq_getElem?_getD,List.getElem?_eq_getElem h1]; exact h2⟩
   subst hpi
   refine aJp k hK (fun q s h1 h2 => ?_) (i := p) (by rw [hget p hpp]; exact hi) hS (fun q hq => ?_) hc j fun a2 w2 j2 => hn a2 w2 (j2.congr fun q hq => ?_)
   · simp only [Bool.and_eq_true] at h2; exact hcl _ _ h1 h2.2.2
   · simp only [Bool.and_eq_true] at hq; exact hb _ hq.2.2
   · rw [hlen] at hq
     by_cases e : q = p
     · subst e; rw [jJ,jJ]
     · rw [gD e,gD fun e2 => e (hinj q p hq hpp e2)]
 · rw [e0]
   refine ⟨fun _ => false,m,fr,h,⟨sa.step hdr,hdr.toZ sa.hz,⟨fr,fun _ _ => rfl,?_⟩,⟨fun _ => 0,fun f hf => (by cases hf),fun f g hf => (by cases hf)⟩,fun f hf => by cases hf⟩,fun f hf => by cases hf⟩
   have h2 : rem lp.length (fun i => !false || false) = List.range lp.length := by
    unfold rem; exact List.filter_eq_self.2 fun _ _ => rfl
   rw [h2]; exact e
 · have hPd : ∀ f,Pd f = false := fun f => by
    cases e : Pd f with
    | false => rfl
    | true =>
     obtain ⟨q,x,h1,h2,h3,_⟩ := hbl f e
     have h4 := hS _ (hpl q (by have := aI h3; omega))
     rw [show S (π.getD q 0) = false from h2] at h4; cases h4
   obtain ⟨fr0,hfr,hw⟩ := j.wp
   rw [aHr fun q hq => by rw [hS _ (hpl q (by omega)),hPd q]; rfl] at hw
   obtain ⟨fr2,e2,q⟩ := hw
   refine ⟨m',fr2,h',j.st,j.sa.frame' fun t => .inr ?_,q⟩
   rw [hfr t fun f hf => by rw [hPd f] at hf; cases hf]
   exact (e2 t).symm
theorem aGb (hm : P.follows .mixedOrders = true) {Q : Exit → Fr → Heap → Prop} {k : List It} {l' : List MIx} (el : l = l') (hf : aAx l (fun p q => Nat.blt p l.length && (Nat.blt q l.length && bfr bef ((List.range l.length).getD p 0) ((List.range l.length).getD q 0))) (fun _ => []) = true) (e : rv P w0 r nt Z Q l' k fr h) : dr P w0 r nt Z Q l bef k fr h := by
 subst el
 refine aGV hm (π := List.range l.length) (lp := l) (R := fun _ => []) ?_ ?_ hf (fun _ _ => rfl) ?_
 · simp only [xW,Bool.and_eq_true,List.all_eq_true,List.mem_range,List.contains_eq_mem,decide_eq_true_eq,Bool.not_eq_true',List.length_range]
   refine ⟨Nat.beq_refl _,⟨fun i hi => hi,fun i hi => by simpa [Nat.blt_eq] using hi⟩,fun p hp q hq => ?_⟩
   rw [List.getD_eq_getElem?_getD,List.getD_eq_getElem?_getD,List.getElem?_range hp,List.getElem?_range (by omega)]
   simp only [Option.getD_some]
   cases hb : Nat.beq p q with
   | false => rfl
   | true => have := bD.1 hb; omega
 · refine List.ext_getElem (by simp) fun i h1 h2 => ?_
   simp
 · have := xG (P := P) (w0 := w0) (l := l) (R := fun _ => []) (is := []) (K := fun fr h => ∃ fr2,FE fr2 fr ∧ unw P w0 r nt Z Q k .normal fr2 h) l [] [] fr fr h (by simp) (FE.refl _) (fun _ _ _ => rfl) (fun f f1 g ef q => ⟨fun _ u hu => (by cases hu),f,ef,q⟩) e
   rw [List.length_nil,← List.range_eq_range',List.append_nil] at this
   exact this
end
end Go.Proofs.Ab
namespace Go.Proofs.Ab
open Go
section
variable {P : Program} {w0 : World} {r : Option Nat} {nt Z : Nat} {fr : Fr} {h : Heap} {l lp : List MIx} {bef : List (List Nat)} {Q : Exit → Fr → Heap → Prop} {k : List It}
def aD4 (o : Option (AV × Heap)) (v : AV) : Prop := ∃ h',o = some (v,h')
@[go_sem] theorem chkV_s {u v : AV} {h' : Heap} : aD4 (some (u,h')) v = (u = v) := by simp [aD4]
@[go_sem] theorem chkV_o {u v : AV} {h' : Heap} : aD4 (onV (some u) h') v = (u = v) := by simp [aD4,onV]
def aAE (w0 : World) : List (Nat × MIx) → Fr → Heap → Prop
 | [],_,_ => True
 | u :: us,fr,h => (match u.2 with
  | .op (some t) none o => aD4 (aop w0 o fr h) (fr.get t)
  | _ => False) ∧ aAE w0 us fr h
@[go_sem] theorem chkM_n : aAE w0 [] fr h = True := (rfl)
@[go_sem] theorem chkM_o {u t : Nat} {o : MOp} {us : List (Nat × MIx)} : aAE w0 ((u,.op (some t) none o) :: us) fr h = (aD4 (aop w0 o fr h) (fr.get t) ∧ aAE w0 us fr h) := (rfl)
abbrev aAR := List (List (Nat × MIx) × List MIx)
def flQ (P : Program) (w0 : World) (r : Option Nat) (nt Z : Nat) (Q : Exit → Fr → Heap → Prop) (k : List It) : aAR → Exit → Fr → Heap → Prop
 | [],_,fr,h => un P w0 r nt Z Q .normal k fr h
 | s :: segs,_,fr,h => aAE w0 s.1 fr h ∧ rv P w0 r nt Z (flQ P w0 r nt Z Q k segs) s.2 [] fr h
@[go_sem] theorem flQ_n {e : Exit} : flQ P w0 r nt Z Q k [] e fr h = un P w0 r nt Z Q .normal k fr h := (rfl)
@[go_sem] theorem flQ_c {e : Exit} {us : List (Nat × MIx)} {s : List MIx} {segs : aAR} : flQ P w0 r nt Z Q k ((us,s) :: segs) e fr h = (aAE w0 us fr h ∧ rv P w0 r nt Z (flQ P w0 r nt Z Q k segs) s [] fr h) := (rfl)
def pL : Nat → aAR → Nat → List Nat
 | _,[],_ => []
 | a,s :: segs,p => if p + 1 = a then s.1.map (·.1) else pL (a + s.2.length) segs p
theorem aGg : ∀ {us : List (Nat × MIx)} {fr : Fr} {h : Heap},(∀ u ∈ us,lp[u.1]? = some u.2) → aAE w0 us fr h → aAG P w0 lp (us.map (·.1)) fr h
 | [],_,_,_,_ => fun u hu => by cases hu
 | (n,x) :: us,fr,h,hu,e => fun u hm => by
  simp only [aAE] at e
  rcases List.mem_cons.1 hm with rfl | hm
  · have hx := hu _ (List.mem_cons_self)
    obtain ⟨e,_⟩ := e
    split at e
    · rename_i t o
      obtain ⟨h',e⟩ := e
      exact ⟨_,t,hx,rfl,_,h',e,rfl⟩
    · exact e.elim
  · exact aGg (fun u hu' => hu u (by simp [hu'])) e.2 u hm
theorem xJ : ∀ {segs : aAR} {a p : Nat},p + 1 < a → pL a segs p = []
 | [],_,_,_ => rfl
 | s :: segs,a,p,h => by simp only [pL]; rw [if_neg (by omega)]; exact xJ (by omega)
theorem aCD {R : Nat → List Nat} : ∀ (segs : aAR) (pre : List MIx) (fr fr1 : Fr) (h : Heap) (e : Exit),lp = pre ++ (segs.map (·.2)).flatten → (∀ q ∈ segs,q.2 ≠ []) → pre ≠ [] → (∀ p,pre.length ≤ p + 1 → R p = pL pre.length segs p) → (∀ q ∈ segs,∀ u ∈ q.1,lp[u.1]? = some u.2) →
 FE fr fr1 → flQ P w0 r nt Z Q k segs e fr h → aAG P w0 lp (R (pre.length - 1)) fr1 h ∧ wli P w0 lp R (List.range' pre.length (lp.length - pre.length)) fr1 h fun fr h => ∃ fr2,FE fr2 fr ∧ unw P w0 r nt Z Q k .normal fr2 h
 | [],pre,fr,fr1,h,e,el,_,_,hR,_,hfe,q => by
  have hl : lp.length - pre.length = 0 := by rw [el]; simp
  rw [hl,hR _ (by omega)]
  exact ⟨fun u hu => by simp [pL] at hu,fr,hfe,q⟩
 | (us,s) :: segs,pre,fr,fr1,h,e,el,hne,hpre,hR,hus,hfe,q => by
  have hp : 0 < pre.length := List.length_pos_iff.2 hpre
  have hs : s ≠ [] := hne (us,s) (by simp)
  have hs0 : 0 < s.length := List.length_pos_iff.2 hs
  refine ⟨?_,?_⟩
  · rw [hR _ (by omega)]
    simp only [pL]
    rw [if_pos (by omega)]
    exact oY (fun _ _ _ _ t _ => (hfe t).symm) (aGg (fun u hu => hus (us,s) (by simp) u hu) q.1)
  · have hlen : lp.length - pre.length = s.length + (lp.length - (pre ++ s).length) := by rw [el]; simp; omega
    rw [hlen,← List.range'_append_1]
    have := xG (P := P) (w0 := w0) (l := lp) (R := R) (is := List.range' (pre.length + s.length) (lp.length - (pre ++ s).length)) (K := fun fr h => ∃ fr2,FE fr2 fr ∧ unw P w0 r nt Z Q k .normal fr2 h) s pre ((segs.map (·.2)).flatten) fr fr1 h (by rw [el]; simp) hfe (fun p h1 h2 => ?_) (fun f f1 g ef q2 => ?_) q.2
    · exact this
    · rw [hR p (by omega)]
      simp only [pL]
      rw [if_neg (by omega)]
      exact xJ (by omega)
    · have ih := aCD (R := R) segs (pre ++ s) f f1 g .normal (by rw [el]; simp) (fun q hq => hne q (by simp [hq])) (by simp [hs]) (fun p hp2 => ?_) (fun q hq => hus q (by simp [hq])) ef q2
      · rw [List.length_append] at ih
        exact ⟨fun _ => ih.1,by rw [List.length_append]; exact ih.2⟩
      · rw [List.length_append] at hp2
        rw [hR p (by omega)]
        simp only [pL]
        rw [if_neg (by omega),List.length_append]
def aEH (s0 : List MIx) (segs : aAR) : Bool := !s0.isEmpty && segs.all fun q => !q.2.isEmpty
theorem sL (hm : P.follows .mixedOrders = true) (π : List Nat) (s0 : List MIx) (segs : aAR) (hlp : π.map (fun i => l[i]?) = (s0 ++ (segs.map (·.2)).flatten).map some) (hus : (segs.map (·.1)).flatten.map (fun u => (s0 ++ (segs.map (·.2)).flatten)[u.1]?) = (segs.map (·.1)).flatten.map fun u => some u.2)
 (hp : (xW l.length π && (aEH s0 segs && aAx (s0 ++ (segs.map (·.2)).flatten) (fun p q => Nat.blt p (s0 ++ (segs.map (·.2)).flatten).length && (Nat.blt q (s0 ++ (segs.map (·.2)).flatten).length && bfr bef (π.getD p 0) (π.getD q 0))) fun p => if p < (s0 ++ (segs.map (·.2)).flatten).length then pL s0.length segs p else [])) = true)
 (e : rv P w0 r nt Z (flQ P w0 r nt Z Q k segs) s0 [] fr h) : dr P w0 r nt Z Q l bef k fr h := by
 simp only [Bool.and_eq_true] at hp
 obtain ⟨h1,h2,h3⟩ := hp
 simp only [aEH,Bool.and_eq_true,Bool.not_eq_true',List.isEmpty_eq_false_iff,List.all_eq_true] at h2
 obtain ⟨h4,h5⟩ := h2
 obtain ⟨lp,elp⟩ : ∃ lp,lp = s0 ++ (segs.map (·.2)).flatten := ⟨_,rfl⟩
 rw [← elp] at hlp hus h3
 refine aGV hm (π := π) (lp := lp) h1 hlp h3 (fun j hj => if_neg (by omega)) ?_
 have hus' : ∀ q ∈ segs,∀ u ∈ q.1,lp[u.1]? = some u.2 := fun q hq u hu => by
  have hm : u ∈ (segs.map (·.1)).flatten := List.mem_flatten.2 ⟨q.1,List.mem_map.2 ⟨q,hq,rfl⟩,hu⟩
  exact List.map_inj_left.1 hus u hm
 obtain ⟨R,eR⟩ : ∃ R : Nat → List Nat,R = fun p => if p < lp.length then pL s0.length segs p else [] := ⟨_,rfl⟩
 rw [← eR]
 have hR : ∀ p,R p = pL s0.length segs p ∨ lp.length ≤ p := fun p => by
  rw [eR]
  rcases Nat.lt_or_ge p lp.length with h | h
  · exact .inl (if_pos h)
  · exact .inr h
 have big : ∀ (segs : aAR) (a p : Nat),a + ((segs.map (·.2)).flatten).length ≤ p → (∀ q ∈ segs,q.2 ≠ []) → pL a segs p = [] := fun segs => by
  induction segs with
  | nil => intro _ _ _ _; rfl
  | cons s segs ih =>
   intro a p hp hne
   simp only [List.map_cons,List.flatten_cons,List.length_append] at hp
   simp only [pL]
   rw [if_neg (by omega)]
   exact ih _ _ (by omega) fun q hq => hne q (by simp [hq])
 have hR2 : ∀ p,R p = pL s0.length segs p := fun p => by
  rcases hR p with h | h
  · exact h
  · rw [eR]; simp only [if_neg (Nat.not_lt.2 h)]
    exact (big segs _ _ (by rw [elp,List.length_append] at h; exact h) h5).symm
 have hs0 : 0 < s0.length := List.length_pos_iff.2 h4
 have := xG (P := P) (w0 := w0) (l := lp) (R := R) (is := List.range' (0 + s0.length) (lp.length - s0.length)) (K := fun fr h => ∃ fr2,FE fr2 fr ∧ unw P w0 r nt Z Q k .normal fr2 h) s0 [] ((segs.map (·.2)).flatten) fr fr h (by rw [elp]; simp) (FE.refl _) (fun p _ hp => ?_) (fun f f1 g ef q => ?_) e
 · rw [List.length_nil,List.range'_append_1] at this
   rw [List.range_eq_range',show lp.length = s0.length + (lp.length - s0.length) by rw [elp]; simp]
   exact this
 · rw [hR2]; simp only [List.length_nil] at hp; exact xJ (by omega)
 · have := aCD (lp := lp) (R := R) segs s0 f f1 g .normal elp h5 h4 (fun p _ => hR2 p) hus' ef q
   simp only [List.length_nil,Nat.zero_add]
   exact ⟨fun _ => this.1,this.2⟩
end
end Go.Proofs.Ab
namespace Go.Proofs.Ab
open Go
section
variable {P : Program} {w0 : World} {r : Option Nat} {nt Z : Nat} {fr : Fr} {h : Heap} {l : List MIx} {bef : List (List Nat)} {Q : Exit → Fr → Heap → Prop} {k : List It}
def Wk (fr2 fr : Fr) : Prop := ∀ t,fr2.get t = .undef ∨ fr2.get t = fr.get t
theorem qL (e : dr P w0 r nt Z (fun e fr h => ∃ fr2 : Fr,Wk fr2 fr ∧ un P w0 r nt Z Q e k fr2 h) l bef [] fr h) : dr P w0 r nt Z Q l bef k fr h := fun c hc m a w B lr sa =>
 wpIn_mono (e c hc m a w B lr sa) fun _ _ _ ⟨m',_,h',s,sa',fr2,hw,q⟩ => ⟨m',fr2,h',s,sa'.frame' hw,q⟩
theorem aBc {L fr0 : Fr} {t : Nat} (h : ∀ p ∈ L,p.1 ≠ t) : Fr.get (L ++ fr0) t = fr0.get t := by
 induction L with
 | nil => rfl
 | cons p L ih =>
  have : Nat.beq t p.1 = false := by
   cases hb : Nat.beq t p.1 with
   | false => rfl
   | true => exact absurd (bD.1 hb).symm (h p (by simp))
  obtain ⟨a,b⟩ := p
  simp only [List.cons_append,Fr.get]
  rw [this]
  exact ih fun q hq => h q (by simp [hq])
theorem tL : ∀ (ks : List Nat) (fr : Fr) (t : Nat),(gN fr ks).get t = .undef ∨ (t ∈ ks ∧ (gN fr ks).get t = fr.get t)
 | [],_,_ => .inl rfl
 | k :: ks,fr,t => by
  simp only [gN,Fr.get]
  cases hb : Nat.beq t k with
  | true => right; rw [bD.1 hb]; exact ⟨by simp,rfl⟩
  | false =>
   rcases tL ks fr t with h | ⟨h1,h2⟩
   · exact .inl h
   · exact .inr ⟨List.mem_cons_of_mem _ h1,h2⟩
theorem aB5 (L : Fr) {fr0 : Fr} {KS : List Nat} {B : Nat} (hL : L.all (fun p => Nat.ble B p.1) = true) (hK : ∀ t ∈ KS,t < B) : Wk (gN fr0 KS) (L ++ fr0) := fun t => by
 rcases tL KS fr0 t with e | ⟨e1,e2⟩
 · exact .inl e
 · refine .inr (e2.trans (aBc fun p hp => ?_).symm)
   have h1 := List.all_eq_true.1 hL p hp
   have h2 := hK t e1
   simp only [Nat.ble_eq] at h1
   omega
theorem Wk.cons {fr2 fr : Fr} {t : Nat} {v : AV} (h : Wk fr2 fr) (hv : fr.get t = v) : Wk ((t,v) :: fr2) fr := fun s => by
 simp only [Fr.get]
 cases hb : Nat.beq s t with
 | true => right; rw [bD.1 hb]; exact hv.symm
 | false => exact h s
end
end Go.Proofs.Ab
namespace Go.Proofs.Ab
open Go
inductive Rw where
 | nil
 | int (r : Rw)
 | bool (r : Rw)
 | sl (e r : Rw)
def Rw.size : Rw → Nat
 | .nil => 0
 | .int r | .bool r | .sl _ r => r.size + 1
def Rw.app : Rw → Rw → Rw
 | .nil,b => b
 | .int r,b => .int (r.app b)
 | .bool r,b => .bool (r.app b)
 | .sl e r,b => .sl e (r.app b)
def zQ (P : Program) (rec : TypeId → Option Rw) : List Field → Nat → Option Rw
 | [],_ => some .nil
 | f :: fs,off => if Nat.beq f.offset off then (rec f.type).bind fun a => if Nat.beq (P.cellsOf f.type) a.size then (zQ P rec fs (off + a.size)).map (a.app ·) else none else none
def mH (P : Program) : Nat → TypeId → Option Rw
 | 0,_ => none
 | n + 1,t => match P.underlying t with
  | some .bool => some (.bool .nil)
  | some (.int .i64) => some (.int .nil)
  | some (.slice e) => (mH P n e).bind fun r => if Nat.beq (P.cellsOf e) r.size then some (.sl r .nil) else none
  | some (.struct fs) => (zQ P (mH P n) fs.toList 0).bind fun r => if Nat.beq (P.cellsOf t) r.size then some r else none
  | _ => none
def Gd (w : World) : Rw → List Value → Prop
 | .nil,cs => cs = []
 | .int r,cs => ∃ n cs',cs = .int .i64 n :: cs' ∧ I64 n ∧ Gd w r cs'
 | .bool r,cs => ∃ b cs',cs = .bool b :: cs' ∧ Gd w r cs'
 | .sl e r,cs => ∃ v cs',cs = v :: cs' ∧ (v = .slice none 0 0 ∨ ∃ a len cap,v = .slice (some a) len cap ∧ len ≤ cap ∧ cap ≤ maxLen ∧ ∀ i,i < len → ∃ c,w.cells? 0 (a.add (i * e.size)) e.size = some c ∧ Gd w e c) ∧ Gd w r cs'
theorem Gd.len {w : World} : ∀ {r : Rw} {cs : List Value},Gd w r cs → cs.length = r.size
 | .nil,cs,h => by cases h; rfl
 | .int r,cs,⟨n,cs',e,_,h⟩ => by subst e; simp [Rw.size,h.len]
 | .bool r,cs,⟨n,cs',e,h⟩ => by subst e; simp [Rw.size,h.len]
 | .sl _ r,cs,⟨n,cs',e,_,h⟩ => by subst e; simp [Rw.size,h.len]
theorem Gd.app {w : World} {b : Rw} {ds : List Value} (hb : Gd w b ds) : ∀ {a : Rw} {cs : List Value},Gd w a cs → Gd w (a.app b) (cs ++ ds)
 | .nil,cs,h => by cases h; exact hb
 | .int r,cs,⟨n,cs',e,h1,h⟩ => by subst e; exact ⟨n,_,rfl,h1,hb.app h⟩
 | .bool r,cs,⟨n,cs',e,h⟩ => by subst e; exact ⟨n,_,rfl,hb.app h⟩
 | .sl _ r,cs,⟨n,cs',e,h1,h⟩ => by subst e; exact ⟨n,_,rfl,h1,hb.app h⟩
theorem tC {a b : Nat} (h : Nat.beq a b = true) : a = b := Nat.eq_of_beq_eq_true h
section
variable {H : Type} {enc : TypeId × Value → H} {P : Program} {w : World} {spare : Nat → Bool} {held : Bool}
theorem wN {fuel : Nat} {rec : TypeId → Option Rw} (ih : ∀ (t : TypeId) (r : Rw) (cs : List Value) x,rec t = some r → DataW.trod enc P w 0 spare held fuel t cs = some x → Gd w r cs) :
 ∀ (fs : List Field) (off : Nat) (r : Rw) (cs : List Value) xs,zQ P rec fs off = some r → cs.length = off + r.size →
  (fs.mapM fun f => DataW.trod enc P w 0 spare held fuel f.type ((cs.drop f.offset).take (P.cellsOf f.type))) = some xs → Gd w r (cs.drop off)
 | [],off,r,cs,xs,h1,h2,_ => by
  simp only [zQ,Option.some.injEq] at h1
  subst h1
  simp only [Rw.size] at h2
  simp only [Gd]
  exact List.drop_eq_nil_of_le (by omega)
 | f :: fs,off,r,cs,xs,h1,h2,h3 => by
  simp only [zQ] at h1
  split at h1
  · rename_i ho
    have ho := tC ho
    simp only [Option.bind_eq_some_iff] at h1
    obtain ⟨a,ha,h1⟩ := h1
    split at h1
    · rename_i hs
      have hs := tC hs
      simp only [Option.map_eq_some_iff] at h1
      obtain ⟨b,hb,rfl⟩ := h1
      simp only [List.mapM_cons,Option.bind_eq_bind,Option.bind_eq_some_iff] at h3
      obtain ⟨y,hy,ys,hys,_⟩ := h3
      have hsz : ∀ a b : Rw,(a.app b).size = a.size + b.size := fun a b => by
       induction a with
       | nil => simp [Rw.app,Rw.size]
       | int r ih => simp only [Rw.app,Rw.size,ih]; omega
       | bool r ih => simp only [Rw.app,Rw.size,ih]; omega
       | sl e r _ ih => simp only [Rw.app,Rw.size,ih]; omega
      rw [hsz] at h2
      have g1 := ih _ _ _ _ ha hy
      rw [ho,hs] at g1
      have g2 := wN ih fs (off + a.size) b cs ys hb (by omega) hys
      have e : cs.drop off = (cs.drop off).take a.size ++ cs.drop (off + a.size) := by
       rw [← List.drop_drop,List.take_append_drop]
      rw [e]
      exact g2.app g1
    · cases h1
  · cases h1
theorem oT : ∀ (n : Nat) {fuel : Nat} {t : TypeId} {r : Rw} {cs : List Value} {x : DataW H × List MemPlace},mH P n t = some r → DataW.trod enc P w 0 spare held fuel t cs = some x → Gd w r cs
 | 0,_,_,_,_,_,h,_ => by cases h
 | n + 1,0,_,_,_,_,_,h => by cases h
 | n + 1,fuel + 1,t,r,cs,x,h1,h2 => by
  simp only [mH] at h1
  generalize hu : P.underlying t = u at h1
  unfold DataW.trod at h2
  rw [hu] at h2
  match u,h1 with
  | some .bool,h1 =>
   cases h1
   match cs,h2 with
   | [.bool b],_ => exact ⟨b,[],rfl,rfl⟩
  | some (.int .i64),h1 =>
   cases h1
   match cs,h2 with
   | [.int k' m],h2 =>
    simp only [Option.ite_none_right_eq_some] at h2
    obtain ⟨⟨hk,hw⟩,_⟩ := h2
    subst hk
    simp only [Lit.wf,Bool.and_eq_true,decide_eq_true_eq] at hw
    exact ⟨m,[],rfl,by simpa [I64,IntKind.min,IntKind.max,IntKind.bits,IntKind.signed] using hw,rfl⟩
  | some (.slice e),h1 =>
   simp only [Option.bind_eq_some_iff] at h1
   obtain ⟨re,hre,h1⟩ := h1
   split at h1
   · rename_i hs
     have hs := tC hs
     cases h1
     match cs,h2 with
     | [.slice none 0 0],_ => exact ⟨_,[],rfl,.inl rfl,rfl⟩
     | [.slice (some a) len cap],h2 =>
      simp only [Option.ite_none_right_eq_some] at h2
      obtain ⟨⟨_,hlc,hcm⟩,h2⟩ := h2
      simp only [Option.bind_eq_some_iff] at h2
      obtain ⟨elems,hel,_⟩ := h2
      refine ⟨_,[],rfl,.inr ⟨a,len,cap,rfl,hlc,hcm,fun i hi => ?_⟩,rfl⟩
      have key : ∀ (l : List Nat) (ys : List (DataW H × List MemPlace)),(l.mapM fun i => (w.cells? 0 (a.add (i * P.cellsOf e)) (P.cellsOf e)).bind (DataW.trod enc P w 0 spare held fuel e)) = some ys →
       ∀ i ∈ l,∃ c y,w.cells? 0 (a.add (i * P.cellsOf e)) (P.cellsOf e) = some c ∧ DataW.trod enc P w 0 spare held fuel e c = some y := by
       intro l
       induction l with
       | nil => intro ys _ i hi; cases hi
       | cons b l ih =>
        intro ys h i hi
        simp only [List.mapM_cons,Option.bind_eq_bind,Option.bind_eq_some_iff] at h
        obtain ⟨y,⟨c,hc,hy⟩,ys',hys,_⟩ := h
        rcases List.mem_cons.1 hi with rfl | hi
        · exact ⟨c,y,hc,hy⟩
        · exact ih ys' hys i hi
      obtain ⟨c,y,hc,hy⟩ := key _ _ hel i (List.mem_range.2 hi)
      rw [hs] at hc
      exact ⟨c,hc,oT n hre hy⟩
   · cases h1
  | some (.struct fs),h1 =>
   simp only [Option.bind_eq_some_iff] at h1
   obtain ⟨re,hre,h1⟩ := h1
   split at h1
   · rename_i hs
     have hs := tC hs
     cases h1
     have h2' : (if cs.length = P.cellsOf t then (fs.toList.mapM fun f => DataW.trod enc P w 0 spare held fuel f.type ((cs.drop f.offset).take (P.cellsOf f.type))).map fun xs => (DataW.agg (xs.map (·.1)),xs.flatMap (·.2)) else none) = some x := by
      cases cs with
      | nil => exact h2
      | cons c cs => exact h2
     split at h2'
     · rename_i hl
       simp only [Option.map_eq_some_iff] at h2'
       obtain ⟨xs,hxs,_⟩ := h2'
       have := wN (fun t r cs x h1 h2 => oT n h1 h2) fs.toList 0 r cs xs hre (by omega) hxs
       simpa using this
     · cases h2'
   · cases h1
end
end Go.Proofs.Ab
namespace Go.Proofs.Ab
open Go Go.ChangeShapes Go.WideShapes Go.ChangeAt Go.RowKit
def injV : Value → AV
 | .agg cs => .agg (cs.toList.map inj)
 | v => inj v
theorem aAj {v : Value} (h : ∀ cs,v ≠ .agg cs) : injV v = inj v := by
 cases v <;> first | rfl | exact absurd rfl (h _)
theorem aCL (m : Emb) (N : Nat) (v : Value) : VR m (injV v) v ∧ (injV v).bdd N := by
 have key : ∀ l : List Value,VRs m (l.map inj) l ∧ AV.bdds N (l.map inj) := fun l => by
  induction l with
  | nil => exact ⟨rfl,trivial⟩
  | cons x l ih => exact ⟨⟨x,l,rfl,(yT m N x).1,ih.1⟩,(yT m N x).2,ih.2⟩
 by_cases h : ∃ cs,v = .agg cs
 · obtain ⟨cs,rfl⟩ := h
   exact ⟨⟨cs,rfl,(key _).1⟩,(key _).2⟩
 · rw [aAj fun cs e => h ⟨cs,e⟩]
   exact yT m N v
theorem qP (m : Emb) (N : Nat) : ∀ l : List Value,VRs m (l.map injV) l ∧ AV.bdds N (l.map injV)
 | [] => ⟨rfl,trivial⟩
 | x :: l => ⟨⟨x,l,rfl,(aCL m N x).1,(qP m N l).1⟩,(aCL m N x).2,(qP m N l).2⟩
def isAgg (P : Program) (t : TypeId) : Bool := match P.underlying t with
 | some (.struct _) => true
 | _ => false
def aB0 (P : Program) (w : World) (t : TypeId) (v : Value) : Prop :=
 ∃ r,mH P 8 t = some r ∧ ((isAgg P t = true ∧ ∃ cs,v = .agg cs ∧ Gd w r cs.toList) ∨ (isAgg P t = false ∧ Gd w r [v] ∧ ∀ cs,v ≠ .agg cs))
def GArgs (P : Program) (w : World) : List TypeId → List Value → Prop
 | [],[] => True
 | t :: ts,v :: vs => aB0 P w t v ∧ GArgs P w ts vs
 | _,_ => False
section
variable {P : Program} {w : World} {t : TypeId} {v : Value}
theorem aB0.agg (g : aB0 P w t v) (ha : isAgg P t = true) {r : Rw} (hr : mH P 8 t = some r) : ∃ cs,injV v = .agg (cs.map inj) ∧ Gd w r cs := by
 obtain ⟨r',h1,⟨_,cs,h2,h3⟩ | ⟨h2,_⟩⟩ := g
 · rw [hr] at h1; cases h1; subst h2
   exact ⟨cs.toList,rfl,h3⟩
 · rw [ha] at h2; cases h2
theorem aB0.one (g : aB0 P w t v) (ha : isAgg P t = false) {r : Rw} (hr : mH P 8 t = some r) : injV v = inj v ∧ Gd w r [v] := by
 obtain ⟨r',h1,⟨h2,_⟩ | ⟨_,h2,h3⟩⟩ := g
 · rw [ha] at h2; cases h2
 · rw [hr] at h1; cases h1
   exact ⟨aAj h3,h2⟩
theorem GArgs.nil {vs : List Value} (g : GArgs P w [] vs) : vs = [] := by cases vs with
 | nil => rfl
 | cons => exact g.elim
theorem GArgs.cons {ts : List TypeId} {vs : List Value} (g : GArgs P w (t :: ts) vs) : ∃ v us,vs = v :: us ∧ aB0 P w t v ∧ GArgs P w ts us := by cases vs with
 | nil => exact g.elim
 | cons v us => exact ⟨v,us,rfl,g.1,g.2⟩
end
section
variable {H : Type} {enc : TypeId × Value → H} {P : Program} {w : World}
theorem aJo {base : Nat} {t : TypeId} {v : Value} {d : DataW H} {ps : List MemPlace} (hr : (mH P 8 t).isSome = true) (ok : Value.okWide P w .any base t v)
 (h : DataW.Trod enc P w 0 (fun _ => true) true t v d ps) : aB0 P w t v := by
 obtain ⟨r,hr⟩ := Option.isSome_iff_exists.1 hr
 obtain ⟨fuel,h⟩ := h
 have g := oT 8 hr h
 refine ⟨r,hr,?_⟩
 have hr' := hr
 rw [show (8 : Nat) = 7 + 1 from rfl,mH] at hr'
 simp only [Value.okWide] at ok
 unfold isAgg
 generalize hu : P.underlying t = u at hr' ok ⊢
 match u,hr' with
 | some (.struct fs),_ =>
  obtain ⟨cs,rfl,_,_⟩ := ok
  exact .inl ⟨rfl,cs,rfl,g⟩
 | some .bool,_ =>
  simp only [Cell.okWide,hu] at ok
  cases v with
  | bool b => exact .inr ⟨rfl,g,fun cs e => by cases e⟩
  | _ => simp [Cell.ok,hu] at ok
 | some (.int .i64),_ =>
  simp only [Cell.okWide,hu] at ok
  cases v with
  | int k n => exact .inr ⟨rfl,g,fun cs e => by cases e⟩
  | _ => simp [Cell.ok,hu] at ok
 | some (.slice e),_ =>
  simp only [Cell.okWide,hu] at ok
  cases v with
  | slice a l c => exact .inr ⟨rfl,g,fun cs e => by cases e⟩
  | _ => simp [Cell.ok,hu] at ok
theorem aAn {base : Nat} : ∀ {ts : List TypeId} {vs : List Value} {ds : List (DataW H)} {ps : List MemPlace},(∀ t ∈ ts,(mH P 8 t).isSome = true) →
 (∀ (j : Nat) t v,ts[j]? = some t → vs[j]? = some v → Value.okWide P w .any base t v) → DataW.TrodAll enc P w 0 (fun _ => true) true ts vs ds ps → GArgs P w ts vs
 | [],[],[],_,_,_,_ => trivial
 | t :: ts,v :: vs,d :: ds,ps,hr,ok,⟨p,q,h1,h2,_⟩ =>
  ⟨aJo (hr t List.mem_cons_self) (ok 0 t v rfl rfl) h1,aAn (fun t ht => hr t (List.mem_cons_of_mem _ ht)) (fun j t v a b => ok (j + 1) t v (by simpa using a) (by simpa using b)) h2⟩
 | [],[],_ :: _,_,_,_,h => h.elim
 | [],_ :: _,_,_,_,_,h => h.elim
 | _ :: _,[],_,_,_,_,h => h.elim
 | _ :: _,_ :: _,[],_,_,_,h => h.elim
theorem oC {W W' : World} (hl : laidOutB P = true) (hb : Below W.heap.size W W') : ∀ {ts : List TypeId} {vs : List Value} {ds : List (DataW H)} {ps : List MemPlace},(∀ t ∈ ts,P.readableRec t = true ∧ t < P.types.size) →
 DataW.TrodAll enc P W 0 (fun _ => true) true ts vs ds ps → DataW.TrodAll enc P W' 0 (fun b => decide (b < W.heap.size)) true ts vs ds ps
 | [],[],[],_,_,h => h
 | t :: ts,v :: vs,d :: ds,ps,hr,h => by
  have hlt := DataW.TrodAll.lt h
  obtain ⟨p,q,h1,h2,rfl⟩ := h
  have ⟨r1,r2⟩ := hr t List.mem_cons_self
  exact ⟨p,q,Below.trod hl r1 r2 h1 hb (fun x hx => hlt x (List.mem_append_left _ hx)),oC hl hb (fun t ht => hr t (List.mem_cons_of_mem _ ht)) h2,rfl⟩
 | [],[],_ :: _,_,_,h => h.elim
 | [],_ :: _,_,_,_,h => h.elim
 | _ :: _,[],_,_,_,h => h.elim
 | _ :: _,_ :: _,[],_,_,h => h.elim
theorem aFR {C : Checked} {os : Os} {f : FuncId} {fn : Func} {s : ChangeSpec} {conds : List PathCond} {tb : TypeId}
 (own : ownKnob C.prog.godebug = none) (started : os.Started) (noInit : C.prog.inits.idxOf? f = none) (hfn : C.prog.funcs[f]? = some fn)
 (witness : ∃ (w : World) (tape : Tape) (i : Input),w.os = os ∧ (w.forCall tape i).Shaped C.prog ∧ i.vars = [] ∧ Input.okWide C.prog (w.forCall tape i) .any w.heap.size f i ∧
  s.pre6 enc C.prog fn conds false (w.forCall tape i).memory i.args ∧ Assume.holds {} C.prog (lone (Frame.enter C.prog f i.args .normal) [] (w.forCall tape i)))
 (hvars : s.vars = []) (hs : ∀ (G : Type) (ds : List (DataW G)),ds.length = fn.params.toList.length → s.fn G ds = { results := [.lit (.bool true)],args := ds })
 (hres : fn.resultTypes = #[tb]) (htb : C.prog.underlying tb = some .bool) (hl : laidOutB C.prog = true)
 (hts : (fn.params.toList.all fun t => (mH C.prog 8 t).isSome && (C.prog.readableRec t && decide (t < C.prog.types.size))) = true)
 (law : ∀ (W : World) (vs : List Value),GArgs C.prog W fn.params.toList vs → ACall C.prog W f (vs.map injV) [] fun v _ => v = .bool true) :
 ReturnsInHanded {} C os f .any (s.pre6 enc C.prog fn conds false) (s.post enc C.prog fn false true false false) := by
 refine returnsInHanded_of_change own started noInit hfn witness ?_
 intro W base args ds gs before hval hW _ _
 have hts' : ∀ t ∈ fn.params.toList,(mH C.prog 8 t).isSome = true ∧ C.prog.readableRec t = true ∧ t < C.prog.types.size := fun t ht => by
  have := List.all_eq_true.1 hts t ht
  simpa using this
 have hW' := hW
 obtain ⟨p,q,hA,hV,rfl,_,_⟩ := hW
 have hlen := trodAll_length hA
 rw [hvars] at hV
 have hq : gs = [] ∧ q = [] := by
  cases gs with
  | nil => exact ⟨rfl,hV⟩
  | cons => exact hV.elim
 obtain ⟨rfl,rfl⟩ := hq
 have hg : GArgs C.prog W fn.params.toList args.toList := aAn (fun t ht => (hts' t ht).1) (fun j t v a b => hval j t v (by simpa using a) (by simpa using b)) hA
 have hc := (law W args.toList hg).2 ⟨fun _ => 0,fun _ => 0,fun _ => 0⟩ W args ⟨Nat.le_refl _,fun _ _ => rfl,fun i b e => by simp at e,fun i j b c _ e => by simp at e⟩ (qP _ 0 _).1 (qP ⟨fun _ => 0,fun _ => 0,fun _ => 0⟩ _ _).2
 refine (callsIn_wide.1 hc).mono fun e W' ⟨v',he,m',v,h',st,hv,_,hb⟩ => ⟨v',he,?_⟩
 subst hb
 simp only [VR] at hv
 subst hv
 have hbl : Below W.heap.size W W' := ⟨st.mods.os,st.mods.tape,st.mods.output,st.mods.size,fun k hk => st.mods.same k hk fun i b e => by simp at e⟩
 have hsp := hs H (ds ++ []) (by simp [hlen.2])
 refine ⟨ds,[],p ++ [],[],p,[],hW',?_,?_,?_,⟨hbl.os,hbl.output,fun i hi => ?_⟩,fun h => by cases h⟩
 · rw [hsp,hres]
   exact trodAll_mk1 (shut_bool htb true)
 · rw [hsp]
   rw [List.append_nil]
   exact oC hl hbl (fun t ht => (hts' t ht).2) hA
 · rw [hvars,hsp]; rfl
 · rw [hbl.block i hi]
   cases W.heap[i]? with
   | none => rfl
   | some o => cases o with
    | cells c t fr => exact ⟨rfl,rfl,rfl,fun _ _ => rfl⟩
    | map es clock => exact .inr ⟨rfl,rfl⟩
    | _ => rfl
end
end Go.Proofs.Ab
namespace Go.Proofs.Ab
open Go
section
variable {w : World} {h : Heap}
theorem aHt {a : Addr} {n : Nat} {cs : List Value} (e : w.cells? 0 a n = some cs) : rdn w h (.old a) n = some (cs.map inj) := by
 have key : ∀ (l : List Nat) (cs : List Value),(l.mapM fun i => w.cell? (a.add i)) = some cs → (l.mapM fun j => (w.cell? (a.add j)).map inj) = some (cs.map inj) := by
  intro l
  induction l with
  | nil => intro cs h; simp at h; subst h; rfl
  | cons x l ih =>
   intro cs h
   simp only [List.mapM_cons,Option.bind_eq_bind,Option.bind_eq_some_iff] at h
   obtain ⟨y,hy,ys,hys,h⟩ := h
   cases h
   simp only [List.mapM_cons,hy,ih ys hys,Option.map_some,Option.bind_eq_bind,Option.bind_some]; rfl
 simp only [World.cells?,Nat.zero_le,if_true] at e
 exact key _ _ e
def tI (w : World) (e : Rw) (v : Value) : Prop := v = .slice none 0 0 ∨ ∃ a len cap,v = .slice (some a) len cap ∧ len ≤ cap ∧ cap ≤ maxLen ∧ ∀ i,i < len → ∃ c,w.cells? 0 (a.add (i * e.size)) e.size = some c ∧ Gd w e c
theorem aCa {e : Rw} {v : Value} (g : tI w e v) : ∃ rows,Sl w h e.size (inj v) rows ∧ rows.length ≤ 9223372036854775807 ∧ ∀ c ∈ rows,∃ cs,c = cs.map inj ∧ Gd w e cs := by
 rcases g with rfl | ⟨a,len,cap,rfl,h1,h2,h3⟩
 · exact ⟨[],.inl ⟨rfl,rfl⟩,by simp,fun c hc => by cases hc⟩
 · refine ⟨(List.range len).map fun i => ((w.cells? 0 (a.add (i * e.size)) e.size).getD []).map inj,?_,?_,?_⟩
   · refine .inr ⟨.old a,false,⟨0,?_,rfl⟩,trivial,fun j c hc => ?_⟩
     · simp only [inj,if_pos h1,List.length_map,List.length_range]
     · simp only [List.getElem?_map,Option.map_eq_some_iff] at hc
       obtain ⟨i,hi,rfl⟩ := hc
       have hj := hi
       have hjl : j < len := by have := List.getElem?_eq_some_iff.1 hi; simpa using this.1
       rw [List.getElem?_range hjl] at hi
       cases hi
       obtain ⟨c,hc,_⟩ := h3 j hjl
       simp only [Pl.add,hc,Option.getD_some]
       exact aHt hc
   · simp only [List.length_map,List.length_range]
     have : maxLen = 9223372036854775807 := rfl
     omega
   · intro c hc
     simp only [List.mem_map,List.mem_range] at hc
     obtain ⟨i,hi,rfl⟩ := hc
     obtain ⟨c,hc,g⟩ := h3 i hi
     exact ⟨c,by rw [hc]; rfl,g⟩
theorem tT {α : Type} {f : α → List AV} {p : α → Prop} : ∀ {rows : List (List AV)},(∀ c ∈ rows,∃ a,c = f a ∧ p a) → ∃ l : List α,rows = l.map f ∧ ∀ a ∈ l,p a
 | [],_ => ⟨[],rfl,fun a ha => by cases ha⟩
 | c :: rows,hc => by
  obtain ⟨a,rfl,ha⟩ := hc c List.mem_cons_self
  obtain ⟨l,rfl,hl⟩ := tT (rows := rows) fun c' hc' => hc c' (List.mem_cons_of_mem _ hc')
  refine ⟨a :: l,rfl,fun x hx => ?_⟩
  rcases List.mem_cons.1 hx with rfl | hx
  · exact ha
  · exact hl x hx
theorem mN {α : Type} {e : Rw} {n : Nat} {v : Value} (f : α → List AV) (hn : e.size = n) (g : tI w e v) (he : ∀ cs,Gd w e cs → ∃ a,cs.map inj = f a) : ∃ l : List α,Sl w h n (inj v) (l.map f) ∧ l.length ≤ 9223372036854775807 := by
 obtain ⟨rows,h1,h2,h3⟩ := aCa (h := h) g
 obtain ⟨l,rfl,_⟩ := tT (f := f) (p := fun _ => True) (rows := rows) fun c hc => by
  obtain ⟨cs,rfl,g⟩ := h3 c hc
  obtain ⟨a,ha⟩ := he cs g
  exact ⟨a,ha,trivial⟩
 exact ⟨l,hn ▸ h1,by simpa using h2⟩
theorem aJn {v : Value} (g : tI w (.int .nil) v) : ∃ l : List Int,Sl w h 1 (inj v) (l.map fun z => [AV.int .i64 z]) ∧ l.length ≤ 9223372036854775807 :=
 mN (fun z => [AV.int .i64 z]) rfl g fun cs g => by
  obtain ⟨n,_,rfl,_,rfl⟩ := g
  exact ⟨n,rfl⟩
end
end Go.Proofs.Ab

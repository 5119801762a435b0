/- The own layer under the proofs of this seat, part G: what calls of the program come to on an abstract heap. No condition. -/
import Derived.Test.YtiakeffhecpddaaGreatF
import Derived.RecoverIn
import Derived.ProofKit
import Derived.OpenShut
import Derived.Carry
import Derived.ChangeCalls
set_option linter.unusedSimpArgs false
set_option linter.unusedVariables false
namespace Go.Proofs.Ab
open Go
def Pl.ren (τ : Nat → Nat) : Pl → Pl
 | .old a => .old a
 | .own i o => .own (τ i) o
mutual
def AV.ren (τ : Nat → Nat) : AV → AV
 | .agg l => .agg (AV.rens τ l)
 | .tup l => .tup (AV.rens τ l)
 | .ptr p => .ptr (p.ren τ)
 | .sl p n es f => .sl (p.ren τ) n es f
 | .map i => .map (τ i)
 | .yld i => .yld (τ i)
 | .fn f a b => .fn f (AV.rens τ a) (AV.rens τ b)
 | .ifc t v => .ifc t (v.ren τ)
 | .undef => .undef
 | .int k n => .int k n
 | .bool b => .bool b
 | .str s => .str s
 | .nilP => .nilP
 | .nilS => .nilS
 | .nilM => .nilM
 | .nilF => .nilF
 | .nilI => .nilI
def AV.rens (τ : Nat → Nat) : List AV → List AV
 | [] => []
 | x :: xs => x.ren τ :: AV.rens τ xs
end
theorem zP {τ : Nat → Nat} {l : List AV} : AV.rens τ l = l.map (AV.ren τ) := by
 induction l with
 | nil => simp [AV.rens]
 | cons x xs ih => simp [AV.rens,ih]
def Fr.ren (τ : Nat → Nat) (fr : Fr) : Fr := fr.map fun p => (p.1,p.2.ren τ)
def Blk.ren (τ : Nat → Nat) : Blk → Blk
 | .row c => .row (AV.rens τ c)
 | .map es => .map (es.map fun e => (e.1.ren τ,e.2.ren τ))
 | .loop nt fr ps a b st pd => .loop nt (Fr.ren τ fr) ps a b st pd
theorem Fr.ren_get {τ : Nat → Nat} {fr : Fr} (t : Nat) : (Fr.ren τ fr).get t = (fr.get t).ren τ := by
 induction fr with
 | nil => simp [Fr.ren,Fr.get,AV.ren]
 | cons p r ih =>
  simp only [Fr.ren,List.map_cons,Fr.get]
  split
  · rfl
  · exact ih
def Emb.comp (m : Emb) (τ : Nat → Nat) : Emb := ⟨fun i => m.blk (τ i),fun i => m.base (τ i),fun i => m.sz (τ i)⟩
theorem aB7 {m : Emb} {τ : Nat → Nat} (p : Pl) : (m.comp τ).pl p = m.pl (p.ren τ) := by cases p <;> rfl
mutual
theorem lQ {m : Emb} {τ : Nat → Nat} : ∀ (v : AV) (x : Value),VR m (v.ren τ) x → VR (m.comp τ) v x
 | .undef,_,_ => by simp only [VR]
 | .int _ _,_,h | .bool _,_,h | .str _,_,h | .nilP,_,h | .nilS,_,h | .nilM,_,h | .nilF,_,h | .nilI,_,h => by simpa only [AV.ren,VR] using h
 | .agg l,x,h => by simp only [AV.ren,VR] at *; obtain ⟨a,e,h⟩ := h; exact ⟨a,e,VRs_ren l _ h⟩
 | .tup l,x,h => by simp only [AV.ren,VR] at *; obtain ⟨a,e,h⟩ := h; exact ⟨a,e,VRs_ren l _ h⟩
 | .ptr p,x,h => by simp only [AV.ren,VR] at *; rw [aB7]; exact h
 | .sl p n es f,x,h => by
  simp only [AV.ren,VR] at *
  obtain ⟨a,cap,e,h1,h2,h3⟩ := h
  refine ⟨a,cap,e,h1,h2,h3.imp id fun ⟨e1,e2⟩ => ⟨by rw [aB7]; exact e1,fun i off hp => ?_⟩⟩
  subst hp
  exact e2 (τ i) off rfl
 | .map i,x,h => by simp only [AV.ren,VR] at *; exact h
 | .yld i,x,h => by simp only [AV.ren,VR] at *; exact h
 | .fn f a b,x,h => by
  simp only [AV.ren,VR] at *
  obtain ⟨p,q,e,h1,h2⟩ := h
  exact ⟨p,q,e,VRs_ren a _ h1,VRs_ren b _ h2⟩
 | .ifc t v,x,h => by
  simp only [AV.ren,VR] at *
  obtain ⟨y,e,h⟩ := h
  exact ⟨y,e,lQ v _ h⟩
theorem VRs_ren {m : Emb} {τ : Nat → Nat} : ∀ (l : List AV) (x : List Value),VRs m (AV.rens τ l) x → VRs (m.comp τ) l x
 | [],_,h => by simpa only [AV.rens,VRs] using h
 | v :: l,x,h => by
  simp only [AV.rens,VRs] at *
  obtain ⟨y,ys,e,h1,h2⟩ := h
  exact ⟨y,ys,e,lQ v _ h1,VRs_ren l _ h2⟩
end
theorem BR_ren {m : Emb} {τ : Nat → Nat} {d n : Nat} {b : Blk} {o : Option Obj} (h : BR m d n (b.ren τ) o) : BR (m.comp τ) d n b o := by
 cases b with
 | row c =>
  obtain ⟨ca,e,rfl,h1,h2⟩ := h
  refine ⟨ca,e,rfl,h1,fun k x hx => ?_⟩
  obtain ⟨y,hy,hv⟩ := h2 k (x.ren τ) (by rw [zP]; simp [hx])
  exact ⟨y,hy,lQ _ _ hv⟩
 | map es =>
  obtain ⟨ea,ck,rfl,h1,h2,h3,h4⟩ := h
  refine ⟨ea,ck,rfl,by simpa using h1,fun k x hx => ?_,h3,h4⟩
  obtain ⟨e,he,hv1,hv2⟩ := h2 k (x.1.ren τ,x.2.ren τ) (by simp [hx])
  exact ⟨e,he,lQ _ _ hv1,lQ _ _ hv2⟩
 | loop nt fr ps a c st p =>
  obtain ⟨L,rfl,h1,h2,h3,h4,h5,h6,h7⟩ := h
  exact ⟨L,rfl,h1,h2,h3,h4,h5,h6,fun t => lQ _ _ (by rw [← Fr.ren_get]; exact h7 t)⟩
def Eqv : Blk → Blk → Prop
 | .loop nt fr ps x y st pd,.loop nt' fr' ps' x' y' st' pd' => nt = nt' ∧ ps = ps' ∧ x = x' ∧ y = y' ∧ st = st' ∧ pd = pd' ∧ ∀ t,fr.get t = fr'.get t
 | a,b => a = b
theorem Eqv.refl (b : Blk) : Eqv b b := by cases b <;> simp [Eqv]
theorem BR_eqv {m : Emb} {d n : Nat} {b b' : Blk} {o : Option Obj} (e : Eqv b b') (h : BR m d n b o) : BR m d n b' o := by
 cases b <;> cases b' <;> simp only [Eqv] at e
 case row.row => cases e; exact h
 case map.map => cases e; exact h
 case loop.loop =>
  obtain ⟨rfl,rfl,rfl,rfl,rfl,rfl,e⟩ := e
  obtain ⟨L,rfl,h1,h2,h3,h4,h5,h6,h7⟩ := h
  exact ⟨L,rfl,h1,h2,h3,h4,h5,h6,fun t => by rw [← e]; exact h7 t⟩
 all_goals cases e
section
variable {P : Program} {w0 : World} {r : Option Nat} {nt Z : Nat} {fr : Fr} {h : aA} {Q : Exit → Fr → aA → Prop} {k : List It} {a : SC}
structure aDL (τ : Nat → Nat) (Z : Nat) (fr fr' : Fr) (h h' : aA) : Prop where
 hz : Z ≤ h'.length
 idn : ∀ i,i < Z → τ i = i
 inj : ∀ i j,i < h'.length → j < h'.length → τ i = τ j → i = j
 blk : ∀ (i : Nat) b,h'[i]? = some (some b) → ∃ b',h[τ i]? = some (some b') ∧ Eqv b' (b.ren τ)
 hb : HB h'
 fb : ∀ t,(fr'.get t).bdd h'.length
 fr : ∀ t,fr'.get t = .undef ∨ (fr'.get t).ren τ = fr.get t
theorem SA.ren {τ : Nat → Nat} {fr' : Fr} {h' : aA} (k : aDL τ Z fr fr' h h') {l : Option Nat} {B : Bs} {m : Emb} {a : Act} {w : World} (sa : SA w0 r l nt Z B m fr h a w) : SA w0 r l nt Z B (m.comp τ) fr' h' a w := by
 have hlt : ∀ (i : Nat) b,h'[i]? = some (some b) → i < h'.length := fun i b hi => by
  rcases Nat.lt_or_ge i h'.length with h1 | h1
  · exact h1
  · rw [List.getElem?_eq_none h1] at hi; cases hi
 refine ⟨⟨sa.sim.size,sa.sim.old,fun i b hi => ?_,fun i j b c hij hi hj => ?_⟩,fun t => ⟨?_,k.fb t⟩,sa.size,sa.low,?_,?_,sa.inr,k.hz⟩
 · obtain ⟨b',hb',he⟩ := k.blk i b hi
   obtain ⟨h1,h2,_⟩ := sa.sim.at_ (τ i) _ hb'
   exact ⟨h1,BR_ren (BR_eqv he h2),k.hb i b hi⟩
 · obtain ⟨b',hb',_⟩ := k.blk i b hi
   obtain ⟨c',hc',_⟩ := k.blk j c hj
   exact sa.sim.inj (τ i) (τ j) _ _ (fun e => hij (k.inj i j (hlt i b hi) (hlt j c hj) e)) hb' hc'
 · rcases k.fr t with e | e
   · rw [e]; simp [VR]
   · exact lQ _ _ (by rw [e]; exact (sa.frame t).1)
 · obtain ⟨rs,h1,h2,h3⟩ := sa.marks
   exact ⟨rs,h1,h2,fun q hq => ⟨(h3 q hq).1,(h3 q hq).2.1,fun i b hi => let ⟨b',hb',_⟩ := k.blk i b hi; (h3 q hq).2.2 (τ i) _ hb'⟩⟩
 · rw [sa.rnd]
   cases hr : r with
   | none => rfl
   | some i => simp [Emb.comp,k.idn i (sa.inr i hr)]
theorem kP.ren {τ : Nat → Nat} {fr' : Fr} {h' : aA} (k : aDL τ Z fr fr' h h') {l : Option Nat} {B : Bs} {m : Emb} {a : Act} {w w' : World} {e : Exit} (p : kP w0 r l nt Z B (m.comp τ) h' w Q e a w') : kP w0 r l nt Z B m h w Q e a w' := by
 obtain ⟨m',fr1,h1,s,sa,q⟩ := p
 refine ⟨m',fr1,h1,⟨s.sim,fun i hi => ?_,⟨s.mods.size,fun c hc hn => s.mods.same c hc fun i b hi => let ⟨b',hb',_⟩ := k.blk i b hi; hn (τ i) _ hb',s.mods.os,s.mods.tape,s.mods.output⟩,s.le,fun i b hi hlt => ?_⟩,sa,q⟩
 · have := s.ext i hi
   simp only [Emb.comp,k.idn i hi] at this
   exact this
 · obtain ⟨j,c,hj,e⟩ := s.roots i b hi hlt
   obtain ⟨c',hc',_⟩ := k.blk j c hj
   exact ⟨τ j,_,hc',e⟩
def shf (N : Nat) (js : List Nat) (i : Nat) : Nat := if i < N then i else N + js.getD (i - N) 0
mutual
theorem AV.ren_bdd {N : Nat} {js : List Nat} : ∀ {v : AV},v.bdd N → v.ren (shf N js) = v
 | .agg l,h => by simp only [AV.bdd,AV.ren] at *; rw [AV.rens_bdd h]
 | .tup l,h => by simp only [AV.bdd,AV.ren] at *; rw [AV.rens_bdd h]
 | .ptr (.old a),h => by simp only [AV.ren,Pl.ren]
 | .ptr (.own i o),h => by simp only [AV.bdd,Pl.bdd,AV.ren,Pl.ren] at *; simp [shf,h]
 | .sl (.old a) _ _ _,h => by simp only [AV.ren,Pl.ren]
 | .sl (.own i o) _ _ _,h => by simp only [AV.bdd,Pl.bdd,AV.ren,Pl.ren] at *; simp [shf,h]
 | .map i,h => by simp only [AV.bdd,AV.ren] at *; simp [shf,h]
 | .yld i,h => by simp only [AV.bdd,AV.ren] at *; simp [shf,h]
 | .fn _ a b,h => by simp only [AV.bdd,AV.ren] at *; rw [AV.rens_bdd h.1,AV.rens_bdd h.2]
 | .ifc _ v,h => by simp only [AV.bdd,AV.ren] at *; rw [AV.ren_bdd h]
 | .undef,_ | .int _ _,_ | .bool _,_ | .str _,_ | .nilP,_ | .nilS,_ | .nilM,_ | .nilF,_ | .nilI,_ => by simp only [AV.ren]
theorem AV.rens_bdd {N : Nat} {js : List Nat} : ∀ {l : List AV},AV.bdds N l → AV.rens (shf N js) l = l
 | [],_ => by simp only [AV.rens]
 | x :: xs,h => by simp only [AV.bdds,AV.rens] at *; rw [AV.ren_bdd h.1,AV.rens_bdd h.2]
end
theorem Blk.ren_row {N : Nat} {js : List Nat} {c : List AV} (h : AV.bdds N c) : Blk.ren (shf N js) (.row c) = .row c := by simp only [Blk.ren,AV.rens_bdd h]
theorem zC {N : Nat} {fr : Fr} {js : List Nat} (h : ∀ t,(fr.get t).bdd N) (t : Nat) : (Fr.ren (shf N js) fr).get t = fr.get t := by
 rw [Fr.ren_get,AV.ren_bdd (h t)]
structure Ord (N : Nat) (js : List Nat) (fr fr' : Fr) (L L' : aA) : Prop where
 len : js.length = L'.length
 nod : js.Nodup
 blk : ∀ (j : Nat) b,L'[j]? = some (some b) → ∃ q,js[j]? = some q ∧ L[q]? = some (some (b.ren (shf N js)))
 hb : HBs (N + L'.length) L'
 fb : FB (N + L'.length) fr'
 fr : Fr.ren (shf N js) fr' = fr
theorem aB1 {N : Nat} {js : List Nat} {b : Blk} (hb : b.bdd N) : Eqv b (b.ren (shf N js)) := by
 cases b with
 | row c => rw [Blk.ren_row (bA.2 hb)]; exact .refl _
 | map es =>
  have : ∀ e ∈ es,((fun e : AV × AV => (e.1.ren (shf N js),e.2.ren (shf N js))) e) = e := fun e he => by
   simp [AV.ren_bdd (hb e he).1,AV.ren_bdd (hb e he).2]
  simp only [Blk.ren]
  rw [List.map_congr_left this]; simp [Eqv]
 | loop nt fr ps x y st pd => exact ⟨rfl,rfl,rfl,rfl,rfl,rfl,fun t => (zC hb t).symm⟩
theorem Ord.ok {js : List Nat} {fr' : Fr} {L L' : aA} (hz : Z ≤ h.length) (hb : HB h) (o : Ord h.length js fr fr' L L') : aDL (shf h.length js) Z fr fr' (h ++ L) (h ++ L') := by
 have hjs : ∀ j q,js[j]? = some q → js.getD j 0 = q := fun j q e => by rw [List.getD_eq_getElem?_getD,e]; rfl
 refine ⟨by simp; omega,fun i hi => by simp [shf]; omega,fun i j hi hj e => ?_,fun i b hi => ?_,tZ hb o.hb,fun t => by rw [List.length_append]; exact o.fb.get t,fun t => .inr ?_⟩
 · rw [List.length_append] at hi hj
   simp only [shf] at e
   by_cases h1 : i < h.length
   · rw [if_pos h1] at e
     by_cases h2 : j < h.length
     · rw [if_pos h2] at e; exact e
     · rw [if_neg h2] at e; omega
   · rw [if_neg h1] at e
     by_cases h2 : j < h.length
     · rw [if_pos h2] at e; omega
     · rw [if_neg h2] at e
       have hi' : i - h.length < js.length := by rw [o.len]; omega
       have hj' : j - h.length < js.length := by rw [o.len]; omega
       have e' : js.getD (i - h.length) 0 = js.getD (j - h.length) 0 := by omega
       rw [List.getD_eq_getElem?_getD,List.getD_eq_getElem?_getD,qA hi',qA hj'] at e'
       simp only [Option.getD_some] at e'
       have hp := List.pairwise_iff_getElem.1 o.nod
       rcases Nat.lt_trichotomy (i - h.length) (j - h.length) with a | a | a
       · exact absurd e' (hp _ _ hi' hj' a)
       · omega
       · exact absurd e'.symm (hp _ _ hj' hi' a)
 · rcases Nat.lt_or_ge i h.length with h1 | h1
   · rw [qH h1] at hi
     have : shf h.length js i = i := by simp [shf,h1]
     rw [this,qH h1]; exact ⟨b,hi,aB1 (hb i b hi)⟩
   · rw [qI h1] at hi
     obtain ⟨q,hq,hb'⟩ := o.blk _ b hi
     have : shf h.length js i = h.length + q := by simp only [shf]; rw [if_neg (by omega),hjs _ _ hq]
     rw [this,qI (by omega),Nat.add_sub_cancel_left]; exact ⟨_,hb',.refl _⟩
 · rw [← o.fr,Fr.ren_get]
end
end Go.Proofs.Ab
namespace Go.Proofs.Ab
open Go
def cF (l : List Int) : List AV := l.map (.int .i64)
@[simp] theorem ints_len (l : List Int) : (cF l).length = l.length := by simp [cF]
@[simp] theorem ints_bdd (N : Nat) (l : List Int) : AV.bdds N (cF l) := by
 rw [bA]; intro x hx; simp only [cF,List.mem_map] at hx; obtain ⟨z,_,rfl⟩ := hx; trivial
@[simp] theorem ints_ren (τ : Nat → Nat) (l : List Int) : AV.rens τ (cF l) = cF l := by
 rw [zP]; simp [cF,AV.ren]
@[simp] theorem ints_one (l : List Int) : (cF l).all one = true := by
 simp only [List.all_eq_true,cF,List.mem_map]; rintro x ⟨z,_,rfl⟩; rfl
@[simp] theorem ints_get (l : List Int) (j : Nat) : (cF l)[j]? = l[j]?.map (AV.int .i64) := by simp [cF]
section
variable {w0 : World} {h : aA}
mutual
theorem AV.ren_id {M : Nat} {τ : Nat → Nat} (hτ : ∀ i,i < M → τ i = i) : ∀ {v : AV},v.bdd M → v.ren τ = v
 | .agg l,h => by simp only [AV.bdd,AV.ren] at *; rw [AV.rens_id hτ h]
 | .tup l,h => by simp only [AV.bdd,AV.ren] at *; rw [AV.rens_id hτ h]
 | .ptr (.old a),h => by simp only [AV.ren,Pl.ren]
 | .ptr (.own i o),h => by simp only [AV.bdd,Pl.bdd,AV.ren,Pl.ren] at *; rw [hτ i h]
 | .sl (.old a) _ _ _,h => by simp only [AV.ren,Pl.ren]
 | .sl (.own i o) _ _ _,h => by simp only [AV.bdd,Pl.bdd,AV.ren,Pl.ren] at *; rw [hτ i h]
 | .map i,h => by simp only [AV.bdd,AV.ren] at *; rw [hτ i h]
 | .yld i,h => by simp only [AV.bdd,AV.ren] at *; rw [hτ i h]
 | .fn _ a b,h => by simp only [AV.bdd,AV.ren] at *; rw [AV.rens_id hτ h.1,AV.rens_id hτ h.2]
 | .ifc _ v,h => by simp only [AV.bdd,AV.ren] at *; rw [AV.ren_id hτ h]
 | .undef,_ | .int _ _,_ | .bool _,_ | .str _,_ | .nilP,_ | .nilS,_ | .nilM,_ | .nilF,_ | .nilI,_ => by simp only [AV.ren]
theorem AV.rens_id {M : Nat} {τ : Nat → Nat} (hτ : ∀ i,i < M → τ i = i) : ∀ {l : List AV},AV.bdds M l → AV.rens τ l = l
 | [],_ => by simp only [AV.rens]
 | x :: xs,h => by simp only [AV.bdds,AV.rens] at *; rw [AV.ren_id hτ h.1,AV.rens_id hτ h.2]
end
end
end Go.Proofs.Ab
namespace Go.Proofs.Ab
open Go
def aD (G H : aA) : Prop := G.length ≤ H.length ∧ ∀ (i : Nat) b,G[i]? = some (some b) → H[i]? = some (some b)
section
variable {w0 : World} {G H : aA}
theorem aD.rd (s : aD G H) {p : Pl} {v : AV} (e : Ab.rd w0 G p = some v) : Ab.rd w0 H p = some v := by
 cases p with
 | old a => exact e
 | own i o =>
  simp only [Ab.rd] at e ⊢
  split at e
  · rename_i c hc; rw [s.2 _ _ hc]; exact e
  · cases e
theorem aD.rdn (s : aD G H) {p : Pl} {n : Nat} {v : List AV} (e : Ab.rdn w0 G p n = some v) : Ab.rdn w0 H p n = some v := by
 cases p with
 | old a => exact e
 | own i o =>
  simp only [Ab.rdn] at e ⊢
  split at e
  · rename_i c hc; rw [s.2 _ _ hc]; exact e
  · cases e
theorem Sl.sub {es : Nat} {v : AV} {rows : List (List AV)} (s : Sl w0 G es v rows) (t : aD G H) : Sl w0 H es v rows := by
 rcases s with s | ⟨p,full,s1,s2,s3⟩
 · exact .inl s
 · exact .inr ⟨p,full,s1,Pl.bdd_mono t.1 s2,fun j c hc => t.rdn (s3 j c hc)⟩
theorem aD.refl : aD G G := ⟨Nat.le_refl _,fun _ _ e => e⟩
theorem aD.app {L : aA} (s : aD G H) : aD G (H ++ L) := ⟨by rw [List.length_append]; have := s.1; omega,fun i b e => aB (s.2 i b e)⟩
theorem aD.trans {K : aA} (s : aD G H) (t : aD H K) : aD G K := ⟨Nat.le_trans s.1 t.1,fun i b e => t.2 i b (s.2 i b e)⟩
theorem aD.msk {i : Nat} : aD (G.set i none) G := ⟨by simp,fun j b e => by
 rw [List.getElem?_set] at e
 split at e
 · split at e <;> cases e
 · exact e⟩
theorem aEt {p : Pl} {a b : Nat} {x y : List AV} (e : Ab.rdn w0 H p a = some x) (e2 : Ab.rdn w0 H (p.add a) b = some y) : Ab.rdn w0 H p (a + b) = some (x ++ y) := by
 cases p with
 | own i o =>
  simp only [Ab.rdn,Pl.add] at e e2 ⊢
  split at e
  · rename_i c hc
    rw [hc] at e2
    simp only at e2 ⊢
    split at e
    · split at e2
      · cases e; cases e2
        rw [if_pos (by omega),List.take_add,List.drop_drop]
      · cases e2
    · cases e
  · cases e
 | old q =>
  simp only [Ab.rdn,Pl.add] at e e2 ⊢
  rw [List.range_add,List.mapM_append,e]
  have : (List.map (fun x => a + x) (List.range b)).mapM (fun j => (w0.cell? (q.add j)).map inj) = (List.range b).mapM (fun j => (w0.cell? ((q.add a).add j)).map inj) := by
   rw [List.mapM_map]
   congr 1
   funext j
   have := Pl.add_add (p := .old q) (m := a) (n := j)
   simp only [Pl.add,Pl.old.injEq] at this
   simp [this]
  rw [this,e2]; rfl
theorem Sl.all {es : Nat} {p : Pl} : ∀ {rows : List (List AV)},rows ≠ [] → (∀ (j : Nat) c,rows[j]? = some c → Ab.rdn w0 H (p.add (j * es)) es = some c) → Ab.rdn w0 H p (rows.length * es) = some rows.flatten
 | [],h,_ => absurd rfl h
 | [c],_,h => by
  have := h 0 c rfl
  simpa [show p.add 0 = p by cases p <;> simp [Pl.add,Addr.add]] using this
 | c :: d :: l,_,h => by
  have h0 := h 0 c rfl
  rw [Nat.zero_mul,show p.add 0 = p by cases p <;> simp [Pl.add,Addr.add]] at h0
  have := Sl.all (p := p.add es) (rows := d :: l) (by simp) fun j c hc => by
   have := h (j + 1) c (by simpa using hc)
   rw [Pl.add_add,show es + j * es = (j + 1) * es by rw [Nat.succ_mul]; omega]; exact this
  have := aEt h0 this
  rw [show (c :: d :: l).length * es = es + (d :: l).length * es by simp only [List.length_cons,Nat.succ_mul]; omega,List.flatten_cons]
  exact this
theorem aDC {es b n : Nat} {old : List AV} {rows : List (List AV)} {y : AV} {p : Pl} (s : Sl w0 H es y rows) (hr : rows ≠ []) (ho : ∀ c ∈ rows,c.all one = true) (hp : Ab.rdn w0 H p (n * es) = some old) (hb : b ≤ 1000000) (hn2 : n + rows.length ≤ 1000000) :
 eV w0 H es b (.sl p n es true) y = some (.sl (.own H.length 0) (n + rows.length) es false,H ++ [some (.row (old ++ rows.flatten))]) := by
 rcases s with ⟨s1,s2⟩ | ⟨q,full,s1,s2,s3⟩
 · exact absurd s2 hr
 · obtain ⟨es',rfl,he⟩ := s1
   have hr2 := Sl.all hr s3
   have hne : rows.length ≠ 0 := fun e => hr (List.eq_nil_of_length_eq_zero e)
   have hsz : (n + rows.length) * (b + 1) ≤ 2 ^ 40 := Nat.le_trans (Nat.mul_le_mul hn2 (show b + 1 ≤ 1000001 by omega)) (by decide)
   have ho2 : rows.flatten.all one = true := by
    rw [List.all_eq_true]; intro x hx
    obtain ⟨c,hc,hx⟩ := List.mem_flatten.1 hx
    exact List.all_eq_true.1 (ho c hc) x hx
   simp only [eV,fY,he,iY,if_true,hr2,Option.map_some,Option.bind_some]
   rw [if_neg hne,if_pos ⟨trivial,hsz,ho2⟩]
   simp [hp,jG]
@[go_sem] theorem app_none {es b n es' : Nat} {p : Pl} {f : Bool} : eV w0 H es b (.sl p n es' f) .nilS = some (.sl p n es' f,H) := by
 simp [eV,fY]
end
def zV (h : aA) (sh : Bool × List Bool) (z : AV) (ok : Bool) (x k : AV) : Option AV := if (keq sh k k).isNone then none else match x with
 | .nilM => some (if ok then .tup [z,.bool false] else z)
 | .map i => match h[i]? with
  | some (some (.map es)) => match gN sh k es 0 with
   | some (some (_,v)) => some (if ok then .tup [v,.bool true] else v)
   | some none => some (if ok then .tup [z,.bool false] else z)
   | none => none
  | _ => none
 | _ => none
section
variable {w0 : World} {h : aA} {fr : Fr}
@[go_sem] theorem aop_look {sh : Bool × List Bool} {z : AV} {ok : Bool} {x k : Opd} : aop w0 (.look sh z ok x k) fr h = onV (zV h sh z ok (x.ev fr) (k.ev fr)) h := by
 simp only [aop,zV]
 split
 · rfl
 · cases Opd.ev fr x with
   | map i =>
    simp only
    cases h[i]? with
    | none => rfl
    | some b => cases b with
     | none => rfl
     | some b => cases b with
      | map es =>
       simp only
       cases gN sh (Opd.ev fr k) es 0 with
       | none => rfl
       | some r => cases r <;> rfl
      | _ => rfl
   | _ => rfl
def aCh (h : aA) (sh : Bool × List Bool) (m k v : AV) : Option (AV × aA) := if (keq sh k k).isNone then none else match m with
 | .map i => match h[i]? with
  | some (some (.map es)) => match gN sh k es 0 with
   | some (some (j,_)) => some (.undef,h.set i (some (.map (es.set j (k,v)))))
   | some none => some (.undef,h.set i (some (.map (es ++ [(k,v)]))))
   | none => none
  | _ => none
 | _ => none
@[go_sem] theorem aop_mput {sh : Bool × List Bool} {m k v : Opd} : aop w0 (.mput sh m k v) fr h = aCh h sh (m.ev fr) (k.ev fr) (v.ev fr) := (rfl)
theorem ACall.vc {P : Program} {f : FuncId} {first args capt : List AV} {K : AV → aA → Prop} (c : ACall P w0 f (first ++ args ++ capt) h K) : bN P w0 (.fn (.func f) first capt) args h K := c
theorem aD.keep {A B : aA} {im i : Nat} {c : Blk} (s : aD (A.set im none) (B.set im none)) (hne : im ≠ i) (e : A[i]? = some (some c)) : B[i]? = some (some c) := by
 have := s.2 i c (by rw [qB hne]; exact e)
 rwa [qB hne] at this
theorem aD.len {A B : aA} {im : Nat} (s : aD (A.set im none) (B.set im none)) : A.length ≤ B.length := by have := s.1; simpa using this
end
section
variable {P : Program} {w0 : World} {h : aA}
theorem uC {f : FuncId} {args : List AV} {K : AV → Prop} (e : ACall P w0 f args h fun v h' => aD h h' ∧ v.bdd h.length ∧ K v) : ACall P w0 f args h fun v h1 => h1 = h ∧ K v := by
 refine ⟨e.1,fun m w vs s hv hb => (e.2 m w vs s hv hb).mono fun en w' ⟨v',e1,m',v,h',st,hvr,_,hs,hbd,hk⟩ => ?_⟩
 have hs' := hs.2
 refine ⟨v',e1,m',v,h,⟨⟨st.sim.size,st.sim.old,fun i b hi => ?_,fun i j b c hij hi hj => st.sim.inj i j b c hij (hs' i b hi) (hs' j c hj)⟩,st.ext,st.mods,Nat.le_refl _,fun i b hi => st.roots i b (hs' i b hi)⟩,hvr,hbd,rfl,hk⟩
 obtain ⟨h1,h2,_⟩ := st.sim.at_ i b (hs' i b hi)
 exact ⟨h1,h2,(s.at_ i b hi).2.2⟩
theorem cK {f : FuncId} {args : List AV} {v : AV} (hv : v.bdd h.length) (e : ACall P w0 f args h fun v' h' => aD h h' ∧ v' = v) : aQ P w0 f args h v h :=
 (uC (K := fun v' => v' = v) (e.mono fun _ _ ⟨h1,h2⟩ => ⟨h1,h2 ▸ hv,h2⟩)).mono fun _ _ ⟨h1,h2⟩ => ⟨h2,h1⟩
end
section
variable {P : Program} {w0 : World} {nt Z : Nat} {fr : Fr} {h : aA}
section
variable {rs : List RV} {h0 : aA} {Q : AV → aA → Prop} {X : List PanicEntry → aA → Prop}
end
def PCall (P : Program) (w0 : World) (f : FuncId) (args : List AV) (h : aA) (o : Option AV) (v : AV) (h1 : aA) : Prop :=
 nQ P w0 f args h (fun v' h' => o = none ∧ v' = v ∧ h' = h1) (fun ch h' => ∃ x,o = some x ∧ ch = pan x ∧ h' = h1)
def PCallV (P : Program) (w0 : World) (fv : AV) (args : List AV) (h : aA) (o : Option AV) (v : AV) (h1 : aA) : Prop :=
 dY P w0 fv args h (fun v' h' => o = none ∧ v' = v ∧ h' = h1) (fun ch h' => ∃ x,o = some x ∧ ch = pan x ∧ h' = h1)
theorem PCall.v {f : FuncId} {first args capt : List AV} {o : Option AV} {v : AV} {h1 : aA} (c : PCall P w0 f (first ++ args ++ capt) h o v h1) : PCallV P w0 (.fn (.func f) first capt) args h o v h1 := c
end
theorem lH {ms : List Nat} {H : aA} {c : Nat} (h : c ∈ ms) (hc : c < H.length) : (msk ms H)[c]? = some none := by rw [oO _ _ _ hc,if_pos h]
theorem bZ {ms : List Nat} {H : aA} {c : Nat} (h : c ∉ ms) : (msk ms H)[c]? = H[c]? := by
 by_cases hc : c < H.length
 · rw [oO _ _ _ hc,if_neg h]
 · rw [List.getElem?_eq_none (by rw [bT]; omega),List.getElem?_eq_none (by omega)]
theorem rL {ms : List Nat} {A B : aA} (hl : A.length ≤ B.length) (h : ∀ (i : Nat) b,i ∉ ms → A[i]? = some (some b) → B[i]? = some (some b)) : aD (msk ms A) (msk ms B) := by
 refine ⟨by rw [bT,bT]; exact hl,fun i b e => ?_⟩
 by_cases hi : i ∈ ms
 · by_cases hc : i < A.length
   · rw [lH hi hc] at e; cases e
   · rw [List.getElem?_eq_none (by rw [bT]; omega)] at e; cases e
 · rw [bZ hi] at e ⊢; exact h i b hi e
theorem aA7 {ms ns : List Nat} {A : aA} (h : ∀ i ∈ ms,i ∈ ns) : aD (msk ns A) (msk ms A) := by
 refine ⟨by rw [bT,bT]; exact Nat.le_refl _,fun i b e => ?_⟩
 by_cases hi : i ∈ ns
 · by_cases hc : i < A.length
   · rw [lH hi hc] at e; cases e
   · rw [List.getElem?_eq_none (by rw [bT]; omega)] at e; cases e
 · rw [bZ hi] at e; rw [bZ fun x => hi (h i x)]; exact e
theorem fT {ms : List Nat} {A : aA} : aD (msk ms A) A := aA7 (ms := []) (fun i hi => by cases hi)
theorem aEw {ms : List Nat} {A : aA} {i : Nat} {x : Option Blk} (h : i ∈ ms) : msk ms (A.set i x) = msk ms A := by
 refine List.ext_getElem? fun c => ?_
 by_cases hc : c < A.length
 · rw [oO _ _ _ (by simpa using hc),oO _ _ _ hc]
   split
   · rfl
   · rename_i hcm
     rw [qB fun e => hcm (by rw [← e]; exact h)]
 · rw [List.getElem?_eq_none (by rw [bT,List.length_set]; omega),List.getElem?_eq_none (by rw [bT]; omega)]
theorem aA6 {ms : List Nat} {A L : aA} : aD (msk ms A) (msk ms (A ++ L)) := rL (by simp) fun i b _ e => aB e
structure bY (C : List Nat) (A B : aA) : Prop where
 le : A.length ≤ B.length
 at_ : ∀ (i : Nat) b,i ∉ C → A[i]? = some (some b) → B[i]? = some (some b)
theorem bY.refl {C : List Nat} {A : aA} : bY C A A := ⟨Nat.le_refl _,fun _ _ _ e => e⟩
theorem bY.trans {C : List Nat} {A B D : aA} (s : bY C A B) (t : bY C B D) : bY C A D := ⟨Nat.le_trans s.le t.le,fun i b hi e => t.at_ i b hi (s.at_ i b hi e)⟩
theorem bY.more {C D : List Nat} {A B : aA} (s : bY C A B) (h : ∀ i ∈ C,i ∈ D) : bY D A B := ⟨s.le,fun i b hi e => s.at_ i b (fun x => hi (h i x)) e⟩
theorem bY.app {C : List Nat} {A B L : aA} (s : bY C A B) : bY C A (B ++ L) := ⟨by rw [List.length_append]; have := s.le; omega,fun i b hi e => aB (s.at_ i b hi e)⟩
theorem aD.toK {C : List Nat} {A B : aA} (s : aD A B) : bY C A B := ⟨s.1,fun i b _ e => s.2 i b e⟩
theorem bY.set {C : List Nat} {A B : aA} (s : bY C A B) {i : Nat} {x : Option Blk} (hi : i ∈ C ∨ A.length ≤ i) : bY C A (B.set i x) :=
 ⟨by rw [List.length_set]; exact s.le,fun j c hj e => by
  have hne : i ≠ j := by
   rintro rfl
   rcases hi with h1 | h1
   · exact hj h1
   · have := aJ e; omega
  rw [qB hne]; exact s.at_ j c hj e⟩
theorem bY.old {C D : List Nat} {A B : aA} (s : bY C A B) (h : ∀ i ∈ C,i ∈ D ∨ A.length ≤ i) : bY D A B :=
 ⟨s.le,fun i b hi e => s.at_ i b (fun x => (h i x).elim hi fun y => by have := aJ e; omega) e⟩
theorem bY.msk {C ms : List Nat} {A B : aA} (s : bY C A B) (h : ∀ i ∈ C,i ∈ ms ∨ A.length ≤ i) : aD (msk ms A) (msk ms B) :=
 rL s.le (s.old h).at_
section
variable {P : Program} {w0 : World} {α : Type} {q : Nat} {C O : List Nat} {V : α → aA → List AV → Prop} {g : List Nat → Prop} {K : aA → Prop}
def eI (P : Program) (w0 : World) (q : Nat) (C : List Nat) (V : α → aA → List AV → Prop) (g : List Nat → Prop) (K : aA → Prop) : List α → List Nat → aA → Prop
 | [],O,H => ∀ H2,bY O H H2 → K H2
 | x :: r,O,H => ∀ H2 args O2,g O2 → bY O H H2 → (∀ i ∈ O2,i ∈ O ∨ H.length ≤ i) → (∀ i ∈ O2,i < H2.length) → V x H2 args →
  dG P w0 q args H2 fun v H3 => bY C H2 H3 ∧ ((v = .bool true ∧ eI P w0 q C V g K r O2 H3) ∨ (v = .bool false ∧ ∀ H4,bY O2 H3 H4 → K H4))
theorem bY.grow {O O2 : List Nat} {H H2 H3 : aA} (t : bY O H H2) (h : ∀ i ∈ O2,i ∈ O ∨ H.length ≤ i) (u : bY O2 H2 H3) : bY O H H3 :=
 ⟨Nat.le_trans t.le u.le,fun i b hi e => u.at_ i b (fun hx => (h i hx).elim hi fun hy => by have := aJ e; omega) (t.at_ i b hi e)⟩
theorem eI.grow {l : List α} {H H2 : aA} {O2 : List Nat} (a : eI P w0 q C V g K l O H) (t : bY O H H2) (h : ∀ i ∈ O2,i ∈ O ∨ H.length ≤ i) : eI P w0 q C V g K l O2 H2 := by
 cases l with
 | nil => exact fun H3 t2 => a H3 (t.grow h t2)
 | cons x r => exact fun H3 args O3 g3 t2 h3 h4 hv => a H3 args O3 g3 (t.grow h t2) (fun i hi => (h3 i hi).elim (h i) fun hx => .inr (Nat.le_trans t.le hx)) h4 hv
theorem eI.keep {l : List α} {H H2 : aA} (a : eI P w0 q C V g K l O H) (t : bY O H H2) : eI P w0 q C V g K l O H2 := a.grow t fun i hi => .inl hi
def qM (P : Program) (w0 : World) (q : Nat) (C : List Nat) (V : α → aA → List AV → Prop) (g : List Nat → Prop) (K : aA → Prop) (r : List α) (y : AV) (O : List Nat) (H : aA) : Prop :=
 (y = .bool true ∧ eI P w0 q C V g K r O H) ∨ (y = .bool false ∧ ∀ H2,bY O H H2 → K H2)
theorem qM.grow {r : List α} {y : AV} {H H2 : aA} {O2 : List Nat} (a : qM P w0 q C V g K r y O H) (t : bY O H H2) (h : ∀ i ∈ O2,i ∈ O ∨ H.length ≤ i) : qM P w0 q C V g K r y O2 H2 := by
 rcases a with ⟨e,a⟩ | ⟨e,a⟩
 · exact .inl ⟨e,a.grow t h⟩
 · exact .inr ⟨e,fun H3 t2 => a H3 (t.grow h t2)⟩
theorem qM.keep {r : List α} {y : AV} {H H2 : aA} (a : qM P w0 q C V g K r y O H) (t : bY O H H2) : qM P w0 q C V g K r y O H2 := a.grow t fun i hi => .inl hi
theorem eI.call {x : α} {r : List α} {H H2 : aA} {args : List AV} (a : eI P w0 q C V g K (x :: r) O H) (t : bY O H H2) (O2 : List Nat) (hg : g O2) (h1 : ∀ i ∈ O2,i ∈ O ∨ H.length ≤ i) (h2 : ∀ i ∈ O2,i < H2.length) (hv : V x H2 args) :
 bN P w0 (.yld q) args H2 fun v H3 => bY C H2 H3 ∧ qM P w0 q C V g K r v O2 H3 := wU (a H2 args O2 hg t h1 h2 hv)
end
section
variable {P : Program} {w0 : World} {r : Option Nat} {nt Z : Nat} {fr : Fr} {h : aA} {l lp : List MIx} {bef : List (List Nat)} {Q : Exit → Fr → aA → Prop} {k : List It}
def tO (o : Option (AV × aA)) (v : AV) : Prop := ∃ h',o = some (v,h')
@[go_sem] theorem chkV_s {u v : AV} {h' : aA} : tO (some (u,h')) v = (u = v) := by simp [tO]
@[go_sem] theorem chkV_o {u v : AV} {h' : aA} : tO (onV (some u) h') v = (u = v) := by simp [tO,onV]
def oF (c : AV) (b : Bool) (o : Option (AV × aA)) (v : AV) : Prop := match c with
 | .bool c => (c = b → tO o v) ∧ (c = !b → v = .tup [])
 | .tup [] => v = .tup []
 | _ => False
section
variable {o : Option (AV × aA)} {v : AV}
@[go_sem] theorem chkG_tt : oF (.bool true) true o v = tO o v := by simp [oF]
@[go_sem] theorem chkG_ff : oF (.bool false) false o v = tO o v := by simp [oF]
@[go_sem] theorem chkG_tf : oF (.bool true) false o v = (v = .tup []) := by simp [oF]
@[go_sem] theorem chkG_ft : oF (.bool false) true o v = (v = .tup []) := by simp [oF]
@[go_sem] theorem chkG_u {b : Bool} : oF (.tup []) b o v = (v = .tup []) := (rfl)
end
def qS (w0 : World) : List (Nat × MIx) → Fr → aA → Prop
 | [],_,_ => True
 | u :: us,fr,h => (match u.2 with
  | .op (some t) none o => tO (aop w0 o fr h) (fr.get t)
  | .op (some t) (some (g,b)) o => oF (fr.get g) b (aop w0 o fr h) (fr.get t)
  | _ => False) ∧ qS w0 us fr h
@[go_sem] theorem chkM_n : qS w0 [] fr h = True := (rfl)
@[go_sem] theorem chkM_o {u t : Nat} {o : MOp} {us : List (Nat × MIx)} : qS w0 ((u,.op (some t) none o) :: us) fr h = (tO (aop w0 o fr h) (fr.get t) ∧ qS w0 us fr h) := (rfl)
@[go_sem] theorem chkM_g {u t g : Nat} {b : Bool} {o : MOp} {us : List (Nat × MIx)} : qS w0 ((u,.op (some t) (some (g,b)) o) :: us) fr h = (oF (fr.get g) b (aop w0 o fr h) (fr.get t) ∧ qS w0 us fr h) := (rfl)
abbrev qK := List (List (Nat × MIx) × List MIx)
def flQ (P : Program) (w0 : World) (r : Option Nat) (nt Z : Nat) (K : Fr → aA → Prop) : qK → Exit → Fr → aA → Prop
 | [],_,fr,h => K fr h
 | s :: segs,_,fr,h => qS w0 s.1 fr h ∧ rv P w0 r nt Z (flQ P w0 r nt Z K segs) s.2 [] fr h
variable {K : Fr → aA → Prop}
@[go_sem] theorem flQ_n {e : Exit} : flQ P w0 r nt Z K [] e fr h = K fr h := (rfl)
@[go_sem] theorem flQ_c {e : Exit} {us : List (Nat × MIx)} {s : List MIx} {segs : qK} : flQ P w0 r nt Z K ((us,s) :: segs) e fr h = (qS w0 us fr h ∧ rv P w0 r nt Z (flQ P w0 r nt Z K segs) s [] fr h) := (rfl)
def kO : Nat → qK → Nat → List Nat
 | _,[],_ => []
 | a,s :: segs,p => if p + 1 = a then s.1.map (·.1) else kO (a + s.2.length) segs p
theorem yK : ∀ {us : List (Nat × MIx)} {fr : Fr} {h : aA},(∀ u ∈ us,lp[u.1]? = some u.2) → qS w0 us fr h → vP P w0 lp (us.map (·.1)) fr h
 | [],_,_,_,_ => fun u hu => by cases hu
 | (n,x) :: us,fr,h,hu,e => fun u hm => by
  simp only [qS] at e
  rcases List.mem_cons.1 hm with rfl | hm
  · have hx := hu _ (List.mem_cons_self)
    obtain ⟨e,_⟩ := e
    split at e
    · rename_i t o
      obtain ⟨h',e⟩ := e
      exact ⟨_,t,hx,rfl,_,h',e,rfl⟩
    · rename_i t g b o
      refine ⟨_,t,hx,rfl,?_⟩
      simp only [opV,want]
      simp only [oF] at e
      generalize fr.get g = c at e ⊢
      split at e
      · rename_i c
        by_cases hc : c = b
        · subst hc
          obtain ⟨h',e⟩ := e.1 rfl
          simp only [beq_self_eq_true]
          exact ⟨_,h',e,rfl⟩
        · have e2 := e.2 (by cases c <;> cases b <;> simp_all)
          have e3 : (c == b) = false := by simpa using hc
          simp only [e3]
          exact e2.symm
      · exact e.symm
      · exact e.elim
    · exact e.elim
  · exact yK (fun u hu' => hu u (by simp [hu'])) e.2 u hm
theorem sR : ∀ {segs : qK} {a p : Nat},p + 1 < a → kO a segs p = []
 | [],_,_,_ => rfl
 | s :: segs,a,p,h => by simp only [kO]; rw [if_neg (by omega)]; exact sR (by omega)
def okS : qK → Bool
 | [] => true
 | [_] => true
 | s :: segs => !s.2.isEmpty && okS segs
theorem okS_c {s : List (Nat × MIx) × List MIx} {segs : qK} (h : okS (s :: segs) = true) : okS segs = true ∧ (s.2 = [] → segs = []) := by
 cases segs with
 | nil => exact ⟨rfl,fun _ => rfl⟩
 | cons t segs =>
  simp only [okS,Bool.and_eq_true,Bool.not_eq_true',List.isEmpty_eq_false_iff] at h
  exact ⟨by simpa [okS] using h.2,fun e => absurd e h.1⟩
theorem aAb {R : Nat → List Nat} : ∀ (segs : qK) (pre : List MIx) (fr fr1 : Fr) (h : aA) (e : Exit),lp = pre ++ (segs.map (·.2)).flatten → okS segs = true → pre ≠ [] → (∀ p,pre.length ≤ p + 1 → R p = kO pre.length segs p) → (∀ q ∈ segs,∀ u ∈ q.1,lp[u.1]? = some u.2) →
 FE fr fr1 → flQ P w0 r nt Z K segs e fr h → vP P w0 lp (R (pre.length - 1)) fr1 h ∧ wli P w0 lp R (List.range' pre.length (lp.length - pre.length)) fr1 h fun fr h => ∃ fr2,FE fr2 fr ∧ K fr2 h
 | [],pre,fr,fr1,h,e,el,_,_,hR,_,hfe,q => by
  have hl : lp.length - pre.length = 0 := by rw [el]; simp
  rw [hl,hR _ (by omega)]
  exact ⟨fun u hu => by simp [kO] at hu,fr,hfe,q⟩
 | (us,s) :: segs,pre,fr,fr1,h,e,el,hne,hpre,hR,hus,hfe,q => by
  have hp : 0 < pre.length := List.length_pos_iff.2 hpre
  obtain ⟨hne,hemp⟩ := okS_c hne
  by_cases hs : s = []
  · obtain rfl := hemp hs
    subst hs
    have hl : lp.length - pre.length = 0 := by rw [el]; simp
    rw [hl,hR _ (by omega)]
    simp only [kO]
    rw [if_pos (by omega)]
    exact ⟨iZ (fun _ _ _ _ t _ => (hfe t).symm) (yK (fun u hu => hus (us,[]) (by simp) u hu) q.1),fr,hfe,q.2⟩
  have hs0 : 0 < s.length := List.length_pos_iff.2 hs
  refine ⟨?_,?_⟩
  · rw [hR _ (by omega)]
    simp only [kO]
    rw [if_pos (by omega)]
    exact iZ (fun _ _ _ _ t _ => (hfe t).symm) (yK (fun u hu => hus (us,s) (by simp) u hu) q.1)
  · have hlen : lp.length - pre.length = s.length + (lp.length - (pre ++ s).length) := by rw [el]; simp; omega
    rw [hlen,← List.range'_append_1]
    have := sJ (P := P) (w0 := w0) (l := lp) (R := R) (is := List.range' (pre.length + s.length) (lp.length - (pre ++ s).length)) (K := fun fr h => ∃ fr2,FE fr2 fr ∧ K fr2 h) s pre ((segs.map (·.2)).flatten) fr fr1 h (by rw [el]; simp) hfe (fun p h1 h2 => ?_) (fun f f1 g ef q2 => ?_) q.2
    · exact this
    · rw [hR p (by omega)]
      simp only [kO]
      rw [if_neg (by omega)]
      exact sR (by omega)
    · have ih := aAb (R := R) segs (pre ++ s) f f1 g .normal (by rw [el]; simp) hne (by simp [hs]) (fun p hp2 => ?_) (fun q hq => hus q (by simp [hq])) ef q2
      · rw [List.length_append] at ih
        exact ⟨fun _ => ih.1,by rw [List.length_append]; exact ih.2⟩
      · rw [List.length_append] at hp2
        rw [hR p (by omega)]
        simp only [kO]
        rw [if_neg (by omega),List.length_append]
def xF (s0 : List MIx) (segs : qK) : Bool := !s0.isEmpty && okS segs
theorem dr_fpE (hm : P.follows .mixedOrders = true) (tl : List MIx) (htl : tl = [] ∨ (∃ d f as,tl = [.call d none f as]) ∧ ∀ j,j < l.length → bfr bef l.length j = true) (π : List Nat) (s0 : List MIx) (segs : qK) (hlp : π.map (fun i => l[i]?) = (s0 ++ (segs.map (·.2)).flatten).map some) (hus : (segs.map (·.1)).flatten.map (fun u => (s0 ++ (segs.map (·.2)).flatten)[u.1]?) = (segs.map (·.1)).flatten.map fun u => some u.2)
 (hp : (pG l.length π && (xF s0 segs && rR (s0 ++ (segs.map (·.2)).flatten) (fun p q => Nat.blt p (s0 ++ (segs.map (·.2)).flatten).length && (Nat.blt q (s0 ++ (segs.map (·.2)).flatten).length && bfr bef (π.getD p 0) (π.getD q 0))) fun p => if p < (s0 ++ (segs.map (·.2)).flatten).length then kO s0.length segs p else [])) = true)
 (e : rv P w0 r nt Z (flQ P w0 r nt Z (tlK P w0 (unw P w0 r nt Z Q k) tl) segs) s0 [] fr h) : dr P w0 r nt Z Q (l ++ tl) bef k fr h := by
 simp only [Bool.and_eq_true] at hp
 obtain ⟨h1,h2,h3⟩ := hp
 simp only [xF,Bool.and_eq_true,Bool.not_eq_true',List.isEmpty_eq_false_iff] at h2
 obtain ⟨h4,h5⟩ := h2
 obtain ⟨lp,elp⟩ : ∃ lp,lp = s0 ++ (segs.map (·.2)).flatten := ⟨_,rfl⟩
 rw [← elp] at hlp hus h3
 refine aAB hm (π := π) (lp := lp) tl htl h1 hlp h3 (fun j hj => if_neg (by omega)) ?_
 have hus' : ∀ q ∈ segs,∀ u ∈ q.1,lp[u.1]? = some u.2 := fun q hq u hu => by
  have hm : u ∈ (segs.map (·.1)).flatten := List.mem_flatten.2 ⟨q.1,List.mem_map.2 ⟨q,hq,rfl⟩,hu⟩
  exact List.map_inj_left.1 hus u hm
 obtain ⟨R,eR⟩ : ∃ R : Nat → List Nat,R = fun p => if p < lp.length then kO s0.length segs p else [] := ⟨_,rfl⟩
 rw [← eR]
 have hR : ∀ p,R p = kO s0.length segs p ∨ lp.length ≤ p := fun p => by
  rw [eR]
  rcases Nat.lt_or_ge p lp.length with h | h
  · exact .inl (if_pos h)
  · exact .inr h
 have big : ∀ (segs : qK) (a p : Nat),a + ((segs.map (·.2)).flatten).length ≤ p → kO a segs p = [] := fun segs => by
  induction segs with
  | nil => intro _ _ _; rfl
  | cons s segs ih =>
   intro a p hp
   simp only [List.map_cons,List.flatten_cons,List.length_append] at hp
   simp only [kO]
   rw [if_neg (by omega)]
   exact ih _ _ (by omega)
 have hR2 : ∀ p,R p = kO s0.length segs p := fun p => by
  rcases hR p with h | h
  · exact h
  · rw [eR]; simp only [if_neg (Nat.not_lt.2 h)]
    exact (big segs _ _ (by rw [elp,List.length_append] at h; exact h)).symm
 have hs0 : 0 < s0.length := List.length_pos_iff.2 h4
 have := sJ (P := P) (w0 := w0) (l := lp) (R := R) (is := List.range' (0 + s0.length) (lp.length - s0.length)) (K := fun fr h => ∃ fr2,FE fr2 fr ∧ tlK P w0 (unw P w0 r nt Z Q k) tl fr2 h) s0 [] ((segs.map (·.2)).flatten) fr fr h (by rw [elp]; simp) (FE.refl _) (fun p _ hp => ?_) (fun f f1 g ef q => ?_) e
 · rw [List.length_nil,List.range'_append_1] at this
   rw [List.range_eq_range',show lp.length = s0.length + (lp.length - s0.length) by rw [elp]; simp]
   exact this
 · rw [hR2]; simp only [List.length_nil] at hp; exact sR (by omega)
 · have := aAb (lp := lp) (R := R) segs s0 f f1 g .normal elp h5 h4 (fun p _ => hR2 p) hus' ef q
   simp only [List.length_nil,Nat.zero_add]
   exact ⟨fun _ => this.1,this.2⟩
theorem rU (hm : P.follows .mixedOrders = true) (π : List Nat) (s0 : List MIx) (segs : qK) (hlp : π.map (fun i => l[i]?) = (s0 ++ (segs.map (·.2)).flatten).map some) (hus : (segs.map (·.1)).flatten.map (fun u => (s0 ++ (segs.map (·.2)).flatten)[u.1]?) = (segs.map (·.1)).flatten.map fun u => some u.2)
 (hp : (pG l.length π && (xF s0 segs && rR (s0 ++ (segs.map (·.2)).flatten) (fun p q => Nat.blt p (s0 ++ (segs.map (·.2)).flatten).length && (Nat.blt q (s0 ++ (segs.map (·.2)).flatten).length && bfr bef (π.getD p 0) (π.getD q 0))) fun p => if p < (s0 ++ (segs.map (·.2)).flatten).length then kO s0.length segs p else [])) = true)
 (e : rv P w0 r nt Z (flQ P w0 r nt Z (un P w0 r nt Z Q .normal k) segs) s0 [] fr h) : dr P w0 r nt Z Q l bef k fr h := by
 have := dr_fpE (Q := Q) (k := k) (r := r) (nt := nt) (Z := Z) hm [] (.inl rfl) π s0 segs hlp hus hp e
 rwa [List.append_nil] at this
end
section
variable {P : Program} {w0 : World} {r : Option Nat} {nt Z : Nat} {fr : Fr} {h : aA} {l : List MIx} {bef : List (List Nat)} {Q : Exit → Fr → aA → Prop} {k : List It}
def Wk (fr2 fr : Fr) : Prop := ∀ t,fr2.get t = .undef ∨ fr2.get t = fr.get t
theorem Wk.cons {fr2 fr : Fr} {t : Nat} {v : AV} (h : Wk fr2 fr) (hv : fr.get t = v) : Wk ((t,v) :: fr2) fr := fun s => by
 simp only [Fr.get]
 cases hb : Nat.beq s t with
 | true => right; rw [cJ.1 hb]; exact hv.symm
 | false => exact h s
end
inductive Rw where
 | nil
 | int (r : Rw)
 | bool (r : Rw)
 | sl (e r : Rw)
def Rw.size : Rw → Nat
 | .nil => 0
 | .int r | .bool r | .sl _ r => r.size + 1
def Rw.app : Rw → Rw → Rw
 | .nil,b => b
 | .int r,b => .int (r.app b)
 | .bool r,b => .bool (r.app b)
 | .sl e r,b => .sl e (r.app b)
def uQ (P : Program) (rec : TypeId → Option Rw) : List Field → Nat → Option Rw
 | [],_ => some .nil
 | f :: fs,off => if Nat.beq f.offset off then (rec f.type).bind fun a => if Nat.beq (P.cellsOf f.type) a.size then (uQ P rec fs (off + a.size)).map (a.app ·) else none else none
def jD (P : Program) : Nat → TypeId → Option Rw
 | 0,_ => none
 | n + 1,t => match P.underlying t with
  | some .bool => some (.bool .nil)
  | some (.int .i64) => some (.int .nil)
  | some (.slice e) => (jD P n e).bind fun r => if Nat.beq (P.cellsOf e) r.size then some (.sl r .nil) else none
  | some (.struct fs) => (uQ P (jD P n) fs.toList 0).bind fun r => if Nat.beq (P.cellsOf t) r.size then some r else none
  | _ => none
def Gd (w : World) : Rw → List Value → Prop
 | .nil,cs => cs = []
 | .int r,cs => ∃ n cs',cs = .int .i64 n :: cs' ∧ I64 n ∧ Gd w r cs'
 | .bool r,cs => ∃ b cs',cs = .bool b :: cs' ∧ Gd w r cs'
 | .sl e r,cs => ∃ v cs',cs = v :: cs' ∧ (v = .slice none 0 0 ∨ ∃ a len cap,v = .slice (some a) len cap ∧ len ≤ cap ∧ cap ≤ maxLen ∧ ∀ i,i < len → ∃ c,w.cells? 0 (a.add (i * e.size)) e.size = some c ∧ Gd w e c) ∧ Gd w r cs'
theorem Gd.len {w : World} : ∀ {r : Rw} {cs : List Value},Gd w r cs → cs.length = r.size
 | .nil,cs,h => by cases h; rfl
 | .int r,cs,⟨n,cs',e,_,h⟩ => by subst e; simp [Rw.size,h.len]
 | .bool r,cs,⟨n,cs',e,h⟩ => by subst e; simp [Rw.size,h.len]
 | .sl _ r,cs,⟨n,cs',e,_,h⟩ => by subst e; simp [Rw.size,h.len]
theorem Gd.app {w : World} {b : Rw} {ds : List Value} (hb : Gd w b ds) : ∀ {a : Rw} {cs : List Value},Gd w a cs → Gd w (a.app b) (cs ++ ds)
 | .nil,cs,h => by cases h; exact hb
 | .int r,cs,⟨n,cs',e,h1,h⟩ => by subst e; exact ⟨n,_,rfl,h1,hb.app h⟩
 | .bool r,cs,⟨n,cs',e,h⟩ => by subst e; exact ⟨n,_,rfl,hb.app h⟩
 | .sl _ r,cs,⟨n,cs',e,h1,h⟩ => by subst e; exact ⟨n,_,rfl,h1,hb.app h⟩
theorem oN {a b : Nat} (h : Nat.beq a b = true) : a = b := Nat.eq_of_beq_eq_true h
section
variable {H : Type} {enc : TypeId × Value → H} {P : Program} {w : World} {spare : Nat → Bool} {held : Bool}
theorem rQ {fuel : Nat} {rec : TypeId → Option Rw} (ih : ∀ (t : TypeId) (r : Rw) (cs : List Value) x,rec t = some r → DataW.trod enc P w 0 spare held fuel t cs = some x → Gd w r cs) :
 ∀ (fs : List Field) (off : Nat) (r : Rw) (cs : List Value) xs,uQ P rec fs off = some r → cs.length = off + r.size →
  (fs.mapM fun f => DataW.trod enc P w 0 spare held fuel f.type ((cs.drop f.offset).take (P.cellsOf f.type))) = some xs → Gd w r (cs.drop off)
 | [],off,r,cs,xs,h1,h2,_ => by
  simp only [uQ,Option.some.injEq] at h1
  subst h1
  simp only [Rw.size] at h2
  simp only [Gd]
  exact List.drop_eq_nil_of_le (by omega)
 | f :: fs,off,r,cs,xs,h1,h2,h3 => by
  simp only [uQ] at h1
  split at h1
  · rename_i ho
    have ho := oN ho
    simp only [qC] at h1
    obtain ⟨a,ha,h1⟩ := h1
    split at h1
    · rename_i hs
      have hs := oN hs
      simp only [qD] at h1
      obtain ⟨b,hb,rfl⟩ := h1
      simp only [List.mapM_cons,Option.bind_eq_bind,qC] at h3
      obtain ⟨y,hy,ys,hys,_⟩ := h3
      have hsz : ∀ a b : Rw,(a.app b).size = a.size + b.size := fun a b => by
       induction a with
       | nil => simp [Rw.app,Rw.size]
       | int r ih => simp only [Rw.app,Rw.size,ih]; omega
       | bool r ih => simp only [Rw.app,Rw.size,ih]; omega
       | sl e r _ ih => simp only [Rw.app,Rw.size,ih]; omega
      rw [hsz] at h2
      have g1 := ih _ _ _ _ ha hy
      rw [ho,hs] at g1
      have g2 := rQ ih fs (off + a.size) b cs ys hb (by omega) hys
      have e : cs.drop off = (cs.drop off).take a.size ++ cs.drop (off + a.size) := by
       rw [← List.drop_drop,List.take_append_drop]
      rw [e]
      exact g2.app g1
    · cases h1
  · cases h1
theorem lN : ∀ (n : Nat) {fuel : Nat} {t : TypeId} {r : Rw} {cs : List Value} {x : DataW H × List MemPlace},jD P n t = some r → DataW.trod enc P w 0 spare held fuel t cs = some x → Gd w r cs
 | 0,_,_,_,_,_,h,_ => by cases h
 | n + 1,0,_,_,_,_,_,h => by cases h
 | n + 1,fuel + 1,t,r,cs,x,h1,h2 => by
  simp only [jD] at h1
  generalize hu : P.underlying t = u at h1
  unfold DataW.trod at h2
  rw [hu] at h2
  match u,h1 with
  | some .bool,h1 =>
   cases h1
   match cs,h2 with
   | [.bool b],_ => exact ⟨b,[],rfl,rfl⟩
  | some (.int .i64),h1 =>
   cases h1
   match cs,h2 with
   | [.int k' m],h2 =>
    simp only [Option.ite_none_right_eq_some] at h2
    obtain ⟨⟨hk,hw⟩,_⟩ := h2
    subst hk
    simp only [Lit.wf,Bool.and_eq_true,decide_eq_true_eq] at hw
    exact ⟨m,[],rfl,by simpa [I64,IntKind.min,IntKind.max,IntKind.bits,IntKind.signed] using hw,rfl⟩
  | some (.slice e),h1 =>
   simp only [qC] at h1
   obtain ⟨re,hre,h1⟩ := h1
   split at h1
   · rename_i hs
     have hs := oN hs
     cases h1
     match cs,h2 with
     | [.slice none 0 0],_ => exact ⟨_,[],rfl,.inl rfl,rfl⟩
     | [.slice (some a) len cap],h2 =>
      simp only [Option.ite_none_right_eq_some] at h2
      obtain ⟨⟨_,hlc,hcm⟩,h2⟩ := h2
      simp only [qC] at h2
      obtain ⟨elems,hel,_⟩ := h2
      refine ⟨_,[],rfl,.inr ⟨a,len,cap,rfl,hlc,hcm,fun i hi => ?_⟩,rfl⟩
      have key : ∀ (l : List Nat) (ys : List (DataW H × List MemPlace)),(l.mapM fun i => (w.cells? 0 (a.add (i * P.cellsOf e)) (P.cellsOf e)).bind (DataW.trod enc P w 0 spare held fuel e)) = some ys →
       ∀ i ∈ l,∃ c y,w.cells? 0 (a.add (i * P.cellsOf e)) (P.cellsOf e) = some c ∧ DataW.trod enc P w 0 spare held fuel e c = some y := by
       intro l
       induction l with
       | nil => intro ys _ i hi; cases hi
       | cons b l ih =>
        intro ys h i hi
        simp only [List.mapM_cons,Option.bind_eq_bind,qC] at h
        obtain ⟨y,⟨c,hc,hy⟩,ys',hys,_⟩ := h
        rcases List.mem_cons.1 hi with rfl | hi
        · exact ⟨c,y,hc,hy⟩
        · exact ih ys' hys i hi
      obtain ⟨c,y,hc,hy⟩ := key _ _ hel i (List.mem_range.2 hi)
      rw [hs] at hc
      exact ⟨c,hc,lN n hre hy⟩
   · cases h1
  | some (.struct fs),h1 =>
   simp only [qC] at h1
   obtain ⟨re,hre,h1⟩ := h1
   split at h1
   · rename_i hs
     have hs := oN hs
     cases h1
     have h2' : (if cs.length = P.cellsOf t then (fs.toList.mapM fun f => DataW.trod enc P w 0 spare held fuel f.type ((cs.drop f.offset).take (P.cellsOf f.type))).map fun xs => (DataW.agg (xs.map (·.1)),xs.flatMap (·.2)) else none) = some x := by
      cases cs with
      | nil => exact h2
      | cons c cs => exact h2
     split at h2'
     · rename_i hl
       simp only [qD] at h2'
       obtain ⟨xs,hxs,_⟩ := h2'
       have := rQ (fun t r cs x h1 h2 => lN n h1 h2) fs.toList 0 r cs xs hre (by omega) hxs
       simpa using this
     · cases h2'
   · cases h1
end
end Go.Proofs.Ab
namespace Go.Proofs.Ab
open Go Go.ChangeShapes Go.WideShapes Go.ChangeAt Go.RowKit
def injV : Value → AV
 | .agg cs => .agg (cs.toList.map inj)
 | v => inj v
theorem vD {v : Value} (h : ∀ cs,v ≠ .agg cs) : injV v = inj v := by
 cases v <;> first | rfl | exact absurd rfl (h _)
theorem aAl (m : Emb) (N : Nat) (v : Value) : VR m (injV v) v ∧ (injV v).bdd N := by
 have key : ∀ l : List Value,VRs m (l.map inj) l ∧ AV.bdds N (l.map inj) := fun l => by
  induction l with
  | nil => exact ⟨rfl,trivial⟩
  | cons x l ih => exact ⟨⟨x,l,rfl,(tR m N x).1,ih.1⟩,(tR m N x).2,ih.2⟩
 by_cases h : ∃ cs,v = .agg cs
 · obtain ⟨cs,rfl⟩ := h
   exact ⟨⟨cs,rfl,(key _).1⟩,(key _).2⟩
 · rw [vD fun cs e => h ⟨cs,e⟩]
   exact tR m N v
theorem mX (m : Emb) (N : Nat) : ∀ l : List Value,VRs m (l.map injV) l ∧ AV.bdds N (l.map injV)
 | [] => ⟨rfl,trivial⟩
 | x :: l => ⟨⟨x,l,rfl,(aAl m N x).1,(mX m N l).1⟩,(aAl m N x).2,(mX m N l).2⟩
def isAgg (P : Program) (t : TypeId) : Bool := match P.underlying t with
 | some (.struct _) => true
 | _ => false
def zB (P : Program) (w : World) (t : TypeId) (v : Value) : Prop :=
 ∃ r,jD P 8 t = some r ∧ ((isAgg P t = true ∧ ∃ cs,v = .agg cs ∧ Gd w r cs.toList) ∨ (isAgg P t = false ∧ Gd w r [v] ∧ ∀ cs,v ≠ .agg cs))
def GArgs (P : Program) (w : World) : List TypeId → List Value → Prop
 | [],[] => True
 | t :: ts,v :: vs => zB P w t v ∧ GArgs P w ts vs
 | _,_ => False
section
variable {P : Program} {w : World} {t : TypeId} {v : Value}
theorem zB.agg (g : zB P w t v) (ha : isAgg P t = true) {r : Rw} (hr : jD P 8 t = some r) : ∃ cs,injV v = .agg (cs.map inj) ∧ Gd w r cs := by
 obtain ⟨r',h1,⟨_,cs,h2,h3⟩ | ⟨h2,_⟩⟩ := g
 · rw [hr] at h1; cases h1; subst h2
   exact ⟨cs.toList,rfl,h3⟩
 · rw [ha] at h2; cases h2
theorem zB.one (g : zB P w t v) (ha : isAgg P t = false) {r : Rw} (hr : jD P 8 t = some r) : injV v = inj v ∧ Gd w r [v] := by
 obtain ⟨r',h1,⟨h2,_⟩ | ⟨_,h2,h3⟩⟩ := g
 · rw [ha] at h2; cases h2
 · rw [hr] at h1; cases h1
   exact ⟨vD h3,h2⟩
theorem GArgs.nil {vs : List Value} (g : GArgs P w [] vs) : vs = [] := by cases vs with
 | nil => rfl
 | cons => exact g.elim
theorem GArgs.cons {ts : List TypeId} {vs : List Value} (g : GArgs P w (t :: ts) vs) : ∃ v us,vs = v :: us ∧ zB P w t v ∧ GArgs P w ts us := by cases vs with
 | nil => exact g.elim
 | cons v us => exact ⟨v,us,rfl,g.1,g.2⟩
end
section
variable {H : Type} {enc : TypeId × Value → H} {P : Program} {w : World}
theorem aG0 {base : Nat} {t : TypeId} {v : Value} {d : DataW H} {ps : List MemPlace} (hr : (jD P 8 t).isSome = true) (ok : Value.okWide P w .any base t v)
 (h : DataW.Trod enc P w 0 (fun _ => true) true t v d ps) : zB P w t v := by
 obtain ⟨r,hr⟩ := Option.isSome_iff_exists.1 hr
 obtain ⟨fuel,h⟩ := h
 have g := lN 8 hr h
 refine ⟨r,hr,?_⟩
 have hr' := hr
 rw [show (8 : Nat) = 7 + 1 from rfl,jD] at hr'
 simp only [Value.okWide] at ok
 unfold isAgg
 generalize hu : P.underlying t = u at hr' ok ⊢
 match u,hr' with
 | some (.struct fs),_ =>
  obtain ⟨cs,rfl,_,_⟩ := ok
  exact .inl ⟨rfl,cs,rfl,g⟩
 | some .bool,_ =>
  simp only [Cell.okWide,hu] at ok
  cases v with
  | bool b => exact .inr ⟨rfl,g,fun cs e => by cases e⟩
  | _ => simp [Cell.ok,hu] at ok
 | some (.int .i64),_ =>
  simp only [Cell.okWide,hu] at ok
  cases v with
  | int k n => exact .inr ⟨rfl,g,fun cs e => by cases e⟩
  | _ => simp [Cell.ok,hu] at ok
 | some (.slice e),_ =>
  simp only [Cell.okWide,hu] at ok
  cases v with
  | slice a l c => exact .inr ⟨rfl,g,fun cs e => by cases e⟩
  | _ => simp [Cell.ok,hu] at ok
theorem vF {base : Nat} : ∀ {ts : List TypeId} {vs : List Value} {ds : List (DataW H)} {ps : List MemPlace},(∀ t ∈ ts,(jD P 8 t).isSome = true) →
 (∀ (j : Nat) t v,ts[j]? = some t → vs[j]? = some v → Value.okWide P w .any base t v) → DataW.TrodAll enc P w 0 (fun _ => true) true ts vs ds ps → GArgs P w ts vs
 | [],[],[],_,_,_,_ => trivial
 | t :: ts,v :: vs,d :: ds,ps,hr,ok,⟨p,q,h1,h2,_⟩ =>
  ⟨aG0 (hr t List.mem_cons_self) (ok 0 t v rfl rfl) h1,vF (fun t ht => hr t (List.mem_cons_of_mem _ ht)) (fun j t v a b => ok (j + 1) t v (by simpa using a) (by simpa using b)) h2⟩
 | [],[],_ :: _,_,_,_,h => h.elim
 | [],_ :: _,_,_,_,_,h => h.elim
 | _ :: _,[],_,_,_,_,h => h.elim
 | _ :: _,_ :: _,[],_,_,_,h => h.elim
theorem kR {W W' : World} (hl : laidOutB P = true) (hb : Below W.heap.size W W') : ∀ {ts : List TypeId} {vs : List Value} {ds : List (DataW H)} {ps : List MemPlace},(∀ t ∈ ts,P.readableRec t = true ∧ t < P.types.size) →
 DataW.TrodAll enc P W 0 (fun _ => true) true ts vs ds ps → DataW.TrodAll enc P W' 0 (fun b => decide (b < W.heap.size)) true ts vs ds ps
 | [],[],[],_,_,h => h
 | t :: ts,v :: vs,d :: ds,ps,hr,h => by
  have hlt := DataW.TrodAll.lt h
  obtain ⟨p,q,h1,h2,rfl⟩ := h
  have ⟨r1,r2⟩ := hr t List.mem_cons_self
  exact ⟨p,q,Below.trod hl r1 r2 h1 hb (fun x hx => hlt x (List.mem_append_left _ hx)),kR hl hb (fun t ht => hr t (List.mem_cons_of_mem _ ht)) h2,rfl⟩
 | [],[],_ :: _,_,_,h => h.elim
 | [],_ :: _,_,_,_,h => h.elim
 | _ :: _,[],_,_,_,h => h.elim
 | _ :: _,_ :: _,[],_,_,h => h.elim
theorem aDa {C : Checked} {os : Os} {f : FuncId} {fn : Func} {s : ChangeSpec} {conds : List PathCond} {tb : TypeId}
 (own : ownKnob C.prog.godebug = none) (started : os.Started) (noInit : C.prog.inits.idxOf? f = none) (hfn : C.prog.funcs[f]? = some fn)
 (witness : ∃ (w : World) (tape : Tape) (i : Input),w.os = os ∧ (w.forCall tape i).Shaped C.prog ∧ i.vars = [] ∧ Input.okWide C.prog (w.forCall tape i) .any w.heap.size f i ∧
  s.pre6 enc C.prog fn conds false (w.forCall tape i).memory i.args ∧ Assume.holds {} C.prog (lone (Frame.enter C.prog f i.args .normal) [] (w.forCall tape i)))
 (hvars : s.vars = []) (hs : ∀ (G : Type) (ds : List (DataW G)),ds.length = fn.params.toList.length → s.fn G ds = { results := [.lit (.bool true)],args := ds })
 (hres : fn.resultTypes = #[tb]) (htb : C.prog.underlying tb = some .bool) (hl : laidOutB C.prog = true)
 (hts : (fn.params.toList.all fun t => (jD C.prog 8 t).isSome && (C.prog.readableRec t && decide (t < C.prog.types.size))) = true)
 (law : ∀ (W : World) (vs : List Value),GArgs C.prog W fn.params.toList vs → ACall C.prog W f (vs.map injV) [] fun v _ => v = .bool true) :
 ReturnsInHanded {} C os f .any (s.pre6 enc C.prog fn conds false) (s.post enc C.prog fn false true false false) := by
 refine returnsInHanded_of_change own started noInit hfn witness ?_
 intro W base args ds gs before hval hW _ _
 have hts' : ∀ t ∈ fn.params.toList,(jD C.prog 8 t).isSome = true ∧ C.prog.readableRec t = true ∧ t < C.prog.types.size := fun t ht => by
  have := List.all_eq_true.1 hts t ht
  simpa using this
 have hW' := hW
 obtain ⟨p,q,hA,hV,rfl,_,_⟩ := hW
 have hlen := trodAll_length hA
 rw [hvars] at hV
 have hq : gs = [] ∧ q = [] := by
  cases gs with
  | nil => exact ⟨rfl,hV⟩
  | cons => exact hV.elim
 obtain ⟨rfl,rfl⟩ := hq
 have hg : GArgs C.prog W fn.params.toList args.toList := vF (fun t ht => (hts' t ht).1) (fun j t v a b => hval j t v (by simpa using a) (by simpa using b)) hA
 have hc := (law W args.toList hg).2 ⟨fun _ => 0,fun _ => 0,fun _ => 0⟩ W args ⟨Nat.le_refl _,fun _ _ => rfl,fun i b e => by simp at e,fun i j b c _ e => by simp at e⟩ (mX _ 0 _).1 (mX ⟨fun _ => 0,fun _ => 0,fun _ => 0⟩ _ _).2
 refine (callsIn_wide.1 hc).mono fun e W' ⟨v',he,m',v,h',st,hv,_,hb⟩ => ⟨v',he,?_⟩
 subst hb
 simp only [VR] at hv
 subst hv
 have hbl : Below W.heap.size W W' := ⟨st.mods.os,st.mods.tape,st.mods.output,st.mods.size,fun k hk => st.mods.same k hk fun i b e => by simp at e⟩
 have hsp := hs H (ds ++ []) (by simp [hlen.2])
 refine ⟨ds,[],p ++ [],[],p,[],hW',?_,?_,?_,⟨hbl.os,hbl.output,fun i hi => ?_⟩,fun h => by cases h⟩
 · rw [hsp,hres]
   exact trodAll_mk1 (shut_bool htb true)
 · rw [hsp]
   rw [List.append_nil]
   exact kR hl hbl (fun t ht => (hts' t ht).2) hA
 · rw [hvars,hsp]; rfl
 · rw [hbl.block i hi]
   cases W.heap[i]? with
   | none => rfl
   | some o => cases o with
    | cells c t fr => exact ⟨rfl,rfl,rfl,fun _ _ => rfl⟩
    | map es clock => exact .inr ⟨rfl,rfl⟩
    | _ => rfl
end
end Go.Proofs.Ab
namespace Go.Proofs.Ab
open Go
section
variable {w : World} {h : aA}
theorem aEs {a : Addr} {n : Nat} {cs : List Value} (e : w.cells? 0 a n = some cs) : rdn w h (.old a) n = some (cs.map inj) := by
 have key : ∀ (l : List Nat) (cs : List Value),(l.mapM fun i => w.cell? (a.add i)) = some cs → (l.mapM fun j => (w.cell? (a.add j)).map inj) = some (cs.map inj) := by
  intro l
  induction l with
  | nil => intro cs h; simp at h; subst h; rfl
  | cons x l ih =>
   intro cs h
   simp only [List.mapM_cons,Option.bind_eq_bind,qC] at h
   obtain ⟨y,hy,ys,hys,h⟩ := h
   cases h
   simp only [List.mapM_cons,hy,ih ys hys,Option.map_some,Option.bind_eq_bind,Option.bind_some]; rfl
 simp only [World.cells?,Nat.zero_le,if_true] at e
 exact key _ _ e
def oS (w : World) (e : Rw) (v : Value) : Prop := v = .slice none 0 0 ∨ ∃ a len cap,v = .slice (some a) len cap ∧ len ≤ cap ∧ cap ≤ maxLen ∧ ∀ i,i < len → ∃ c,w.cells? 0 (a.add (i * e.size)) e.size = some c ∧ Gd w e c
theorem zO {e : Rw} {v : Value} (g : oS w e v) : ∃ rows,Sl w h e.size (inj v) rows ∧ rows.length ≤ 9223372036854775807 ∧ ∀ c ∈ rows,∃ cs,c = cs.map inj ∧ Gd w e cs := by
 rcases g with rfl | ⟨a,len,cap,rfl,h1,h2,h3⟩
 · exact ⟨[],.inl ⟨rfl,rfl⟩,by simp,fun c hc => by cases hc⟩
 · refine ⟨(List.range len).map fun i => ((w.cells? 0 (a.add (i * e.size)) e.size).getD []).map inj,?_,?_,?_⟩
   · refine .inr ⟨.old a,false,⟨0,?_,rfl⟩,trivial,fun j c hc => ?_⟩
     · simp only [inj,if_pos h1,List.length_map,List.length_range]
     · simp only [List.getElem?_map,qD] at hc
       obtain ⟨i,hi,rfl⟩ := hc
       have hj := hi
       have hjl : j < len := by have := List.getElem?_eq_some_iff.1 hi; simpa using this.1
       rw [List.getElem?_range hjl] at hi
       cases hi
       obtain ⟨c,hc,_⟩ := h3 j hjl
       simp only [Pl.add,hc,Option.getD_some]
       exact aEs hc
   · simp only [List.length_map,List.length_range]
     have : maxLen = 9223372036854775807 := rfl
     omega
   · intro c hc
     simp only [List.mem_map,List.mem_range] at hc
     obtain ⟨i,hi,rfl⟩ := hc
     obtain ⟨c,hc,g⟩ := h3 i hi
     exact ⟨c,by rw [hc]; rfl,g⟩
theorem pD {α : Type} {f : α → List AV} {p : α → Prop} : ∀ {rows : List (List AV)},(∀ c ∈ rows,∃ a,c = f a ∧ p a) → ∃ l : List α,rows = l.map f ∧ ∀ a ∈ l,p a
 | [],_ => ⟨[],rfl,fun a ha => by cases ha⟩
 | c :: rows,hc => by
  obtain ⟨a,rfl,ha⟩ := hc c List.mem_cons_self
  obtain ⟨l,rfl,hl⟩ := pD (rows := rows) fun c' hc' => hc c' (List.mem_cons_of_mem _ hc')
  refine ⟨a :: l,rfl,fun x hx => ?_⟩
  rcases List.mem_cons.1 hx with rfl | hx
  · exact ha
  · exact hl x hx
theorem mC {α : Type} {e : Rw} {n : Nat} {v : Value} (f : α → List AV) (hn : e.size = n) (g : oS w e v) (he : ∀ cs,Gd w e cs → ∃ a,cs.map inj = f a) : ∃ l : List α,Sl w h n (inj v) (l.map f) ∧ l.length ≤ 9223372036854775807 := by
 obtain ⟨rows,h1,h2,h3⟩ := zO (h := h) g
 obtain ⟨l,rfl,_⟩ := pD (f := f) (p := fun _ => True) (rows := rows) fun c hc => by
  obtain ⟨cs,rfl,g⟩ := h3 c hc
  obtain ⟨a,ha⟩ := he cs g
  exact ⟨a,ha,trivial⟩
 exact ⟨l,hn ▸ h1,by simpa using h2⟩
end
end Go.Proofs.Ab

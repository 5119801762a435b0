/- The own layer under the proofs of this seat, part G: what calls of the program come to on an abstract heap. No condition. -/
import Derived.Test.YtammfjjepbekaaaF
import Derived.ProofKit
import Derived.OpenShut
import Derived.Carry
import Derived.ChangeCalls
set_option linter.unusedSimpArgs false
set_option linter.unusedVariables false
namespace Go.Proofs.Ab
open Go

def Pl.ren (τ : Nat → Nat) : Pl → Pl
  | .old a => .old a
  | .own i o => .own (τ i) o

mutual
def AV.ren (τ : Nat → Nat) : AV → AV
  | .agg l => .agg (AV.rens τ l)
  | .tup l => .tup (AV.rens τ l)
  | .ptr p => .ptr (p.ren τ)
  | .sl p n es f => .sl (p.ren τ) n es f
  | .map i => .map (τ i)
  | .yld i => .yld (τ i)
  | .fn f a b => .fn f (AV.rens τ a) (AV.rens τ b)
  | .ifc t v => .ifc t (v.ren τ)
  | .undef => .undef
  | .int k n => .int k n
  | .bool b => .bool b
  | .str s => .str s
  | .nilP => .nilP
  | .nilS => .nilS
  | .nilM => .nilM
  | .nilF => .nilF
  | .nilI => .nilI
def AV.rens (τ : Nat → Nat) : List AV → List AV
  | [] => []
  | x :: xs => x.ren τ :: AV.rens τ xs
end

theorem rens_eq {τ : Nat → Nat} {l : List AV} : AV.rens τ l = l.map (AV.ren τ) := by
  induction l with
  | nil => simp [AV.rens]
  | cons x xs ih => simp [AV.rens, ih]

def Fr.ren (τ : Nat → Nat) (fr : Fr) : Fr := fr.map fun p => (p.1, p.2.ren τ)
def Blk.ren (τ : Nat → Nat) : Blk → Blk
  | .row c => .row (AV.rens τ c)
  | .map es => .map (es.map fun e => (e.1.ren τ, e.2.ren τ))
  | .loop nt fr ps a b st pd => .loop nt (Fr.ren τ fr) ps a b st pd

theorem Fr.ren_get {τ : Nat → Nat} {fr : Fr} (t : Nat) : (Fr.ren τ fr).get t = (fr.get t).ren τ := by
  induction fr with
  | nil => simp [Fr.ren, Fr.get, AV.ren]
  | cons p r ih =>
    simp only [Fr.ren, List.map_cons, Fr.get]
    split
    · rfl
    · exact ih

def Emb.comp (m : Emb) (τ : Nat → Nat) : Emb := ⟨fun i => m.blk (τ i), fun i => m.base (τ i), fun i => m.sz (τ i)⟩

theorem pl_ren {m : Emb} {τ : Nat → Nat} (p : Pl) : (m.comp τ).pl p = m.pl (p.ren τ) := by cases p <;> rfl

mutual
theorem VR_ren {m : Emb} {τ : Nat → Nat} : ∀ (v : AV) (x : Value), VR m (v.ren τ) x → VR (m.comp τ) v x
  | .undef, _, _ => by simp only [VR]
  | .int _ _, _, h | .bool _, _, h | .str _, _, h | .nilP, _, h | .nilS, _, h | .nilM, _, h | .nilF, _, h | .nilI, _, h => by simpa only [AV.ren, VR] using h
  | .agg l, x, h => by simp only [AV.ren, VR] at *; obtain ⟨a, e, h⟩ := h; exact ⟨a, e, VRs_ren l _ h⟩
  | .tup l, x, h => by simp only [AV.ren, VR] at *; obtain ⟨a, e, h⟩ := h; exact ⟨a, e, VRs_ren l _ h⟩
  | .ptr p, x, h => by simp only [AV.ren, VR] at *; rw [pl_ren]; exact h
  | .sl p n es f, x, h => by
    simp only [AV.ren, VR] at *
    obtain ⟨a, cap, e, h1, h2, h3⟩ := h
    refine ⟨a, cap, e, h1, h2, h3.imp id fun ⟨e1, e2⟩ => ⟨by rw [pl_ren]; exact e1, fun i off hp => ?_⟩⟩
    subst hp
    exact e2 (τ i) off rfl
  | .map i, x, h => by simp only [AV.ren, VR] at *; exact h
  | .yld i, x, h => by simp only [AV.ren, VR] at *; exact h
  | .fn f a b, x, h => by
    simp only [AV.ren, VR] at *
    obtain ⟨p, q, e, h1, h2⟩ := h
    exact ⟨p, q, e, VRs_ren a _ h1, VRs_ren b _ h2⟩
  | .ifc t v, x, h => by
    simp only [AV.ren, VR] at *
    obtain ⟨y, e, h⟩ := h
    exact ⟨y, e, VR_ren v _ h⟩
theorem VRs_ren {m : Emb} {τ : Nat → Nat} : ∀ (l : List AV) (x : List Value), VRs m (AV.rens τ l) x → VRs (m.comp τ) l x
  | [], _, h => by simpa only [AV.rens, VRs] using h
  | v :: l, x, h => by
    simp only [AV.rens, VRs] at *
    obtain ⟨y, ys, e, h1, h2⟩ := h
    exact ⟨y, ys, e, VR_ren v _ h1, VRs_ren l _ h2⟩
end

theorem BR_ren {m : Emb} {τ : Nat → Nat} {d n : Nat} {b : Blk} {o : Option Obj} (h : BR m d n (b.ren τ) o) : BR (m.comp τ) d n b o := by
  cases b with
  | row c =>
    obtain ⟨ca, e, rfl, h1, h2⟩ := h
    refine ⟨ca, e, rfl, h1, fun k x hx => ?_⟩
    obtain ⟨y, hy, hv⟩ := h2 k (x.ren τ) (by rw [rens_eq]; simp [hx])
    exact ⟨y, hy, VR_ren _ _ hv⟩
  | map es =>
    obtain ⟨ea, ck, rfl, h1, h2, h3, h4⟩ := h
    refine ⟨ea, ck, rfl, by simpa using h1, fun k x hx => ?_, h3, h4⟩
    obtain ⟨e, he, hv1, hv2⟩ := h2 k (x.1.ren τ, x.2.ren τ) (by simp [hx])
    exact ⟨e, he, VR_ren _ _ hv1, VR_ren _ _ hv2⟩
  | loop nt fr ps a c st p =>
    obtain ⟨L, rfl, h1, h2, h3, h4, h5, h6, h7⟩ := h
    exact ⟨L, rfl, h1, h2, h3, h4, h5, h6, fun t => VR_ren _ _ (by rw [← Fr.ren_get]; exact h7 t)⟩

def Eqv : Blk → Blk → Prop
  | .loop nt fr ps x y st pd, .loop nt' fr' ps' x' y' st' pd' => nt = nt' ∧ ps = ps' ∧ x = x' ∧ y = y' ∧ st = st' ∧ pd = pd' ∧ ∀ t, fr.get t = fr'.get t
  | a, b => a = b
theorem Eqv.refl (b : Blk) : Eqv b b := by cases b <;> simp [Eqv]
theorem BR_eqv {m : Emb} {d n : Nat} {b b' : Blk} {o : Option Obj} (e : Eqv b b') (h : BR m d n b o) : BR m d n b' o := by
  cases b <;> cases b' <;> simp only [Eqv] at e
  case row.row => cases e; exact h
  case map.map => cases e; exact h
  case loop.loop =>
    obtain ⟨rfl, rfl, rfl, rfl, rfl, rfl, e⟩ := e
    obtain ⟨L, rfl, h1, h2, h3, h4, h5, h6, h7⟩ := h
    exact ⟨L, rfl, h1, h2, h3, h4, h5, h6, fun t => by rw [← e]; exact h7 t⟩
  all_goals cases e

section
variable {P : Program} {w0 : World} {r : Option Nat} {nt Z : Nat} {fr : Fr} {h : Heap} {Q : Exit → Fr → Heap → Prop} {k : List It} {a : SC}

structure RenOK (τ : Nat → Nat) (Z : Nat) (fr fr' : Fr) (h h' : Heap) : Prop where
  hz : Z ≤ h'.length
  idn : ∀ i, i < Z → τ i = i
  inj : ∀ i j, i < h'.length → j < h'.length → τ i = τ j → i = j
  blk : ∀ (i : Nat) b, h'[i]? = some (some b) → ∃ b', h[τ i]? = some (some b') ∧ Eqv b' (b.ren τ)
  hb : HB h'
  fb : ∀ t, (fr'.get t).bdd h'.length
  fr : ∀ t, fr'.get t = .undef ∨ (fr'.get t).ren τ = fr.get t

theorem SA.ren {τ : Nat → Nat} {fr' : Fr} {h' : Heap} (k : RenOK τ Z fr fr' h h') {l : Option Nat} {B : Nat} {m : Emb} {a : Act} {w : World} (sa : SA w0 r l nt Z B m fr h a w) : SA w0 r l nt Z B (m.comp τ) fr' h' a w := by
  have hlt : ∀ (i : Nat) b, h'[i]? = some (some b) → i < h'.length := fun i b hi => by
    rcases Nat.lt_or_ge i h'.length with h1 | h1
    · exact h1
    · rw [List.getElem?_eq_none h1] at hi; cases hi
  refine ⟨⟨sa.sim.size, sa.sim.old, fun i b hi => ?_, fun i j b c hij hi hj => ?_⟩, fun t => ⟨?_, k.fb t⟩, sa.size, sa.low, ?_, ?_, sa.inr, k.hz⟩
  · obtain ⟨b', hb', he⟩ := k.blk i b hi
    obtain ⟨h1, h2, _⟩ := sa.sim.at_ (τ i) _ hb'
    exact ⟨h1, BR_ren (BR_eqv he h2), k.hb i b hi⟩
  · obtain ⟨b', hb', _⟩ := k.blk i b hi
    obtain ⟨c', hc', _⟩ := k.blk j c hj
    exact sa.sim.inj (τ i) (τ j) _ _ (fun e => hij (k.inj i j (hlt i b hi) (hlt j c hj) e)) hb' hc'
  · rcases k.fr t with e | e
    · rw [e]; simp [VR]
    · exact VR_ren _ _ (by rw [e]; exact (sa.frame t).1)
  · obtain ⟨rs, h1, h2, h3⟩ := sa.marks
    exact ⟨rs, h1, h2, fun q hq => ⟨(h3 q hq).1, (h3 q hq).2.1, fun i b hi => let ⟨b', hb', _⟩ := k.blk i b hi; (h3 q hq).2.2 (τ i) _ hb'⟩⟩
  · rw [sa.rnd]
    cases hr : r with
    | none => rfl
    | some i => simp [Emb.comp, k.idn i (sa.inr i hr)]

theorem Post.ren {τ : Nat → Nat} {fr' : Fr} {h' : Heap} (k : RenOK τ Z fr fr' h h') {l : Option Nat} {B : Nat} {m : Emb} {a : Act} {w w' : World} {e : Exit} (p : Post w0 r l nt Z B (m.comp τ) h' w Q e a w') : Post w0 r l nt Z B m h w Q e a w' := by
  obtain ⟨m', fr1, h1, s, sa, q⟩ := p
  refine ⟨m', fr1, h1, ⟨s.sim, fun i hi => ?_, ⟨s.mods.size, fun c hc hn => s.mods.same c hc fun i b hi => let ⟨b', hb', _⟩ := k.blk i b hi; hn (τ i) _ hb', s.mods.os, s.mods.tape, s.mods.output⟩, s.le, fun i b hi hlt => ?_⟩, sa, q⟩
  · have := s.ext i hi
    simp only [Emb.comp, k.idn i hi] at this
    exact this
  · obtain ⟨j, c, hj, e⟩ := s.roots i b hi hlt
    obtain ⟨c', hc', _⟩ := k.blk j c hj
    exact ⟨τ j, _, hc', e⟩

theorem EvL_ren {mc : MC} {τ : Nat → Nat} {fr' : Fr} {h' : Heap} (k : RenOK τ Z fr fr' h h') (e : EvL P w0 r nt Z mc fr' h' Q) : EvL P w0 r nt Z mc fr h Q := fun c hc m a w B l sa =>
  (e c hc _ a w B l (sa.ren k)).mono fun _ _ _ p => p.ren k
theorem EvM_ren {mc : MC} {τ : Nat → Nat} {fr' : Fr} {h' : Heap} (k : RenOK τ Z fr fr' h h') (e : EvM P w0 r nt Z mc fr' h' Q) : EvM P w0 r nt Z mc fr h Q := fun c hc m a w B l sa =>
  wpIn_mono (e c hc _ a w B l (sa.ren k)) fun _ _ _ p => p.ren k

def shf (N : Nat) (js : List Nat) (i : Nat) : Nat := if i < N then i else N + js.getD (i - N) 0

mutual
theorem AV.ren_bdd {N : Nat} {js : List Nat} : ∀ {v : AV}, v.bdd N → v.ren (shf N js) = v
  | .agg l, h => by simp only [AV.bdd, AV.ren] at *; rw [AV.rens_bdd h]
  | .tup l, h => by simp only [AV.bdd, AV.ren] at *; rw [AV.rens_bdd h]
  | .ptr (.old a), h => by simp only [AV.ren, Pl.ren]
  | .ptr (.own i o), h => by simp only [AV.bdd, Pl.bdd, AV.ren, Pl.ren] at *; simp [shf, h]
  | .sl (.old a) _ _ _, h => by simp only [AV.ren, Pl.ren]
  | .sl (.own i o) _ _ _, h => by simp only [AV.bdd, Pl.bdd, AV.ren, Pl.ren] at *; simp [shf, h]
  | .map i, h => by simp only [AV.bdd, AV.ren] at *; simp [shf, h]
  | .yld i, h => by simp only [AV.bdd, AV.ren] at *; simp [shf, h]
  | .fn _ a b, h => by simp only [AV.bdd, AV.ren] at *; rw [AV.rens_bdd h.1, AV.rens_bdd h.2]
  | .ifc _ v, h => by simp only [AV.bdd, AV.ren] at *; rw [AV.ren_bdd h]
  | .undef, _ | .int _ _, _ | .bool _, _ | .str _, _ | .nilP, _ | .nilS, _ | .nilM, _ | .nilF, _ | .nilI, _ => by simp only [AV.ren]
theorem AV.rens_bdd {N : Nat} {js : List Nat} : ∀ {l : List AV}, AV.bdds N l → AV.rens (shf N js) l = l
  | [], _ => by simp only [AV.rens]
  | x :: xs, h => by simp only [AV.bdds, AV.rens] at *; rw [AV.ren_bdd h.1, AV.rens_bdd h.2]
end

theorem Blk.ren_row {N : Nat} {js : List Nat} {c : List AV} (h : AV.bdds N c) : Blk.ren (shf N js) (.row c) = .row c := by simp only [Blk.ren, AV.rens_bdd h]

theorem Fr_get_bdd {N : Nat} {fr : Fr} {js : List Nat} (h : ∀ t, (fr.get t).bdd N) (t : Nat) : (Fr.ren (shf N js) fr).get t = fr.get t := by
  rw [Fr.ren_get, AV.ren_bdd (h t)]

structure Ord (N : Nat) (js : List Nat) (fr fr' : Fr) (L L' : Heap) : Prop where
  len : js.length = L'.length
  nod : js.Nodup
  blk : ∀ (j : Nat) b, L'[j]? = some (some b) → ∃ q, js[j]? = some q ∧ L[q]? = some (some (b.ren (shf N js)))
  hb : HBs (N + L'.length) L'
  fb : FB (N + L'.length) fr'
  fr : Fr.ren (shf N js) fr' = fr

theorem ren_same {N : Nat} {js : List Nat} {b : Blk} (hb : b.bdd N) : Eqv b (b.ren (shf N js)) := by
  cases b with
  | row c => rw [Blk.ren_row (bdds_iff.2 hb)]; exact .refl _
  | map es =>
    have : ∀ e ∈ es, ((fun e : AV × AV => (e.1.ren (shf N js), e.2.ren (shf N js))) e) = e := fun e he => by
      simp [AV.ren_bdd (hb e he).1, AV.ren_bdd (hb e he).2]
    simp only [Blk.ren]
    rw [List.map_congr_left this]; simp [Eqv]
  | loop nt fr ps x y st pd => exact ⟨rfl, rfl, rfl, rfl, rfl, rfl, fun t => (Fr_get_bdd hb t).symm⟩

theorem Ord.ok {js : List Nat} {fr' : Fr} {L L' : Heap} (hz : Z ≤ h.length) (hb : HB h) (o : Ord h.length js fr fr' L L') : RenOK (shf h.length js) Z fr fr' (h ++ L) (h ++ L') := by
  have hjs : ∀ j q, js[j]? = some q → js.getD j 0 = q := fun j q e => by rw [List.getD_eq_getElem?_getD, e]; rfl
  refine ⟨by simp; omega, fun i hi => by simp [shf]; omega, fun i j hi hj e => ?_, fun i b hi => ?_, HB_app hb o.hb, fun t => by rw [List.length_append]; exact o.fb.get t, fun t => .inr ?_⟩
  · rw [List.length_append] at hi hj
    simp only [shf] at e
    by_cases h1 : i < h.length
    · rw [if_pos h1] at e
      by_cases h2 : j < h.length
      · rw [if_pos h2] at e; exact e
      · rw [if_neg h2] at e; omega
    · rw [if_neg h1] at e
      by_cases h2 : j < h.length
      · rw [if_pos h2] at e; omega
      · rw [if_neg h2] at e
        have hi' : i - h.length < js.length := by rw [o.len]; omega
        have hj' : j - h.length < js.length := by rw [o.len]; omega
        have e' : js.getD (i - h.length) 0 = js.getD (j - h.length) 0 := by omega
        rw [List.getD_eq_getElem?_getD, List.getD_eq_getElem?_getD, List.getElem?_eq_getElem hi', List.getElem?_eq_getElem hj'] at e'
        simp only [Option.getD_some] at e'
        have hp := List.pairwise_iff_getElem.1 o.nod
        rcases Nat.lt_trichotomy (i - h.length) (j - h.length) with a | a | a
        · exact absurd e' (hp _ _ hi' hj' a)
        · omega
        · exact absurd e'.symm (hp _ _ hj' hi' a)
  · rcases Nat.lt_or_ge i h.length with h1 | h1
    · rw [List.getElem?_append_left h1] at hi
      have : shf h.length js i = i := by simp [shf, h1]
      rw [this, List.getElem?_append_left h1]; exact ⟨b, hi, ren_same (hb i b hi)⟩
    · rw [List.getElem?_append_right h1] at hi
      obtain ⟨q, hq, hb'⟩ := o.blk _ b hi
      have : shf h.length js i = h.length + q := by simp only [shf]; rw [if_neg (by omega), hjs _ _ hq]
      rw [this, List.getElem?_append_right (by omega), Nat.add_sub_cancel_left]; exact ⟨_, hb', .refl _⟩
  · rw [← o.fr, Fr.ren_get]

theorem lp_ord (js : List Nat) {fr' : Fr} {L L' : Heap} (hz : Z ≤ h.length) (hb : HB h) (o : Ord h.length js fr fr' L L') (e : lp P w0 r nt Z Q a k fr' (h ++ L')) : lp P w0 r nt Z Q a k fr (h ++ L) :=
  EvL_ren (o.ok hz hb) e

structure OrdV (N : Nat) (js : List Nat) (v v' : AV) (L L' : Heap) : Prop where
  len : js.length = L'.length
  nod : js.Nodup
  blk : ∀ (j : Nat) b, L'[j]? = some (some b) → ∃ q, js[j]? = some q ∧ L[q]? = some (some (b.ren (shf N js)))
  hb : HBs (N + L'.length) L'
  vb : v'.bdd (N + L'.length)
  v : v'.ren (shf N js) = v

theorem ACall_ord {f : FuncId} {args : List AV} {K : AV → Heap → Prop} (e : ACall P w0 f args h fun v h' => HB h ∧ ∃ js L L' v', h' = h ++ L ∧ OrdV h.length js v v' L L' ∧ K v' (h ++ L')) : ACall P w0 f args h K := by
  refine ⟨e.1, fun m w vs s hv hb => (e.2 m w vs s hv hb).mono fun en w' ⟨x, e1, m', v, h', st, hvr, _, hhb, js, L, L', v', hh, o, hk⟩ => ?_⟩
  subst hh
  have ok : RenOK (shf h.length js) h.length (Fr.ren (shf h.length js) [(0, v')]) [(0, v')] (h ++ L) (h ++ L') := Ord.ok (Nat.le_refl _) hhb ⟨o.len, o.nod, o.blk, o.hb, by simpa [FB] using o.vb, rfl⟩
  have hlt : ∀ (i : Nat) b, (h ++ L')[i]? = some (some b) → i < (h ++ L').length := fun i b hi => by
    rcases Nat.lt_or_ge i (h ++ L').length with h1 | h1
    · exact h1
    · rw [List.getElem?_eq_none h1] at hi; cases hi
  refine ⟨x, e1, m'.comp (shf h.length js), v', _, ⟨⟨st.sim.size, st.sim.old, fun i b hi => ?_, fun i j b c hij hi hj => ?_⟩, fun i hi => ?_, st.mods, by simp, fun i b hi hl => ?_⟩, ?_, by rw [List.length_append]; exact o.vb, hk⟩
  · obtain ⟨b', hb', he⟩ := ok.blk i b hi
    obtain ⟨h1, h2, _⟩ := st.sim.at_ _ _ hb'
    exact ⟨h1, BR_ren (BR_eqv he h2), ok.hb i b hi⟩
  · obtain ⟨b', hb', _⟩ := ok.blk i b hi
    obtain ⟨c', hc', _⟩ := ok.blk j c hj
    exact st.sim.inj _ _ _ _ (fun e => hij (ok.inj i j (hlt i b hi) (hlt j c hj) e)) hb' hc'
  · have := st.ext i hi
    simp only [Emb.comp, ok.idn i hi]; exact this
  · obtain ⟨b', hb', _⟩ := ok.blk i b hi
    exact st.roots _ _ hb' hl
  · exact VR_ren _ _ (by rw [o.v]; exact hvr)

def ordK (h : Heap) (v1 : AV) (L1 : Heap) (v : AV) (h' : Heap) : Prop := ∃ js L, h' = h ++ L ∧ OrdV h.length js v v1 L L1
theorem DCall_ord (hm : P.follows .mixedOrders = true) {f : FuncId} {mf : SF} (hf : cfun P f = some mf.er) (hb : hasBody P f = true) (g : mf.body.good = true) {args : List AV} (hn : args.length ≤ mf.nt) {v : AV} {L : Heap}
    (e : HB h → AV.bdds h.length args → sx P w0 none mf.nt h.length mf.body (initFr args 0) (h ++ []) (resK w0 mf.res (ordK h v L))) : DCall P w0 f args h v (h ++ L) :=
  ACall_ord (ACall_sx hm hf hb g hn fun h1 h2 => sx_mono _ (e h1 h2) fun e fr h' q => by
    cases e with
    | normal => obtain ⟨v', q1, js, L1, q2, q3⟩ := q; exact ⟨v', q1, h1, js, L1, L, v, q2, q3, rfl, rfl⟩
    | ret => obtain ⟨v', q1, js, L1, q2, q3⟩ := q; exact ⟨v', q1, h1, js, L1, L, v, q2, q3, rfl, rfl⟩
    | _ => exact q.elim)

theorem shf_0 {N : Nat} {js : List Nat} : shf N js N = N + js.getD 0 0 := by simp [shf]
theorem shf_a {N i : Nat} {js : List Nat} : shf N js (N + i) = N + js.getD i 0 := by
  simp only [shf]; rw [if_neg (by omega), Nat.add_sub_cancel_left]
theorem ord_n {N : Nat} {js : List Nat} {L : Heap} : ∀ (j : Nat) b, ([] : Heap)[j]? = some (some b) → ∃ q, ([] : List Nat)[j]? = some q ∧ L[q]? = some (some (b.ren (shf N js))) := fun j b h => by simp at h
theorem ord_c {N q : Nat} {js qs : List Nat} {L L' : Heap} {o : Option Blk} (h0 : ∀ b, o = some b → L[q]? = some (some (b.ren (shf N js)))) (ht : ∀ (j : Nat) b, L'[j]? = some (some b) → ∃ p, qs[j]? = some p ∧ L[p]? = some (some (b.ren (shf N js)))) :
    ∀ (j : Nat) b, (o :: L')[j]? = some (some b) → ∃ p, (q :: qs)[j]? = some p ∧ L[p]? = some (some (b.ren (shf N js))) := fun j b h => by
  cases j with
  | zero => simp at h; exact ⟨q, rfl, h0 b h⟩
  | succ j => simpa using ht j b (by simpa using h)
end
end Go.Proofs.Ab

namespace Go.Proofs.Ab
open Go

def ints (l : List Int) : List AV := l.map (.int .i64)
@[simp] theorem ints_len (l : List Int) : (ints l).length = l.length := by simp [ints]
@[simp] theorem ints_bdd (N : Nat) (l : List Int) : AV.bdds N (ints l) := by
  rw [bdds_iff]; intro x hx; simp only [ints, List.mem_map] at hx; obtain ⟨z, _, rfl⟩ := hx; trivial
@[simp] theorem ints_ren (τ : Nat → Nat) (l : List Int) : AV.rens τ (ints l) = ints l := by
  rw [rens_eq]; simp [ints, AV.ren]
@[simp] theorem ints_one (l : List Int) : (ints l).all one = true := by
  simp only [List.all_eq_true, ints, List.mem_map]; rintro x ⟨z, _, rfl⟩; rfl
theorem ints_app (l : List Int) (z : Int) : ints l ++ [.int .i64 z] = ints (l ++ [z]) := by simp [ints]
@[simp] theorem ints_get (l : List Int) (j : Nat) : (ints l)[j]? = l[j]?.map (AV.int .i64) := by simp [ints]

section
variable {w0 : World} {h : Heap}

theorem app_nil {es b : Nat} {x : List AV} {L : Heap} (k : Nat) (f : Bool) (hk : L[k]? = some (some (.row x))) (hx : x.length = es) (ho : x.all one = true) (hb : b ≤ 1000000) :
    appA w0 (h ++ L) es b .nilS (.sl (.own (h.length + k) 0) 1 es f) = some (.sl (.own (h.length + L.length) 0) 1 es false, h ++ (L ++ [some (.row x)])) := by
  have hr : rdn w0 (h ++ L) (.own (h.length + k) 0) (1 * es) = some x := by
    simp only [rdn]
    rw [List.getElem?_append_right (by omega), Nat.add_sub_cancel_left, hk]
    simp [hx]
    rw [← hx]; simp
  simp only [appA, srcOf, esOk_s, if_true, hr, Option.map_some, Option.bind_some]
  rw [if_neg (by omega), if_pos ⟨by omega, ho⟩]
  simp [mkSl]

theorem app_own {es b n : Nat} {x old : List AV} {L : Heap} (i k : Nat) (f : Bool) (hi : L[i]? = some (some (.row old))) (hn : old.length = n * es) (hk : L[k]? = some (some (.row x))) (hx : x.length = es) (ho : x.all one = true) (hb : b ≤ 1000000) (hn2 : n ≤ 1000000) :
    appA w0 (h ++ L) es b (.sl (.own (h.length + i) 0) n es false) (.sl (.own (h.length + k) 0) 1 es f) = some (.sl (.own (h.length + L.length) 0) (n + 1) es false, h ++ (L.set i none ++ [some (.row (old ++ x))])) := by
  have hr : rdn w0 (h ++ L) (.own (h.length + k) 0) (1 * es) = some x := by
    simp only [rdn]
    rw [List.getElem?_append_right (by omega), Nat.add_sub_cancel_left, hk]
    simp [hx]
    rw [← hx]; simp
  have hr2 : rdn w0 (h ++ L) (.own (h.length + i) 0) (n * es) = some old := by
    simp only [rdn]
    rw [List.getElem?_append_right (by omega), Nat.add_sub_cancel_left, hi]
    simp [hn]
    rw [← hn]; simp
  have hsz : (n + 1) * (b + 1) ≤ 2 ^ 40 := Nat.le_trans (Nat.mul_le_mul (show n + 1 ≤ 1000001 by omega) (show b + 1 ≤ 1000001 by omega)) (by decide)
  simp only [appA, srcOf, esOk_s, if_true, hr, Option.map_some, Option.bind_some]
  rw [if_neg (by omega), if_pos ⟨trivial, hsz, ho⟩]
  simp only [Bool.false_eq_true, if_false, hr2, Option.bind_some]
  simp only [Option.some.injEq, Prod.mk.injEq, List.length_append, true_and]
  rw [List.set_append_right _ _ (by omega), Nat.add_sub_cancel_left, List.append_assoc]

def ownV (es i n : Nat) : AV := if n = 0 then .nilS else .sl (.own i 0) n es false
def ownB (l : List AV) : Heap := if l = [] then [] else [some (.row l)]

theorem ownV_0 {es i : Nat} : ownV es i 0 = .nilS := rfl
theorem ownV_s {es i n : Nat} : ownV es i (n + 1) = .sl (.own i 0) (n + 1) es false := rfl
theorem ownB_c {x : AV} {l : List AV} : ownB (x :: l) = [some (.row (x :: l))] := by simp [ownB]
theorem ownB_ne {l : List AV} (h : l ≠ []) : ownB l = [some (.row l)] := by simp [ownB, h]
theorem ownV_bdd {es i n N : Nat} {l : List AV} (hl : l.length = n * es) (hes : es ≠ 0) (hN : i + (ownB l).length ≤ N) : (ownV es i n).bdd N := by
  unfold ownV
  split
  · trivial
  · rename_i hn
    have : l ≠ [] := fun e => by
      rw [e] at hl
      have : 0 < n * es := Nat.mul_pos (by omega) (by omega)
      simp at hl; omega
    rw [ownB_ne this] at hN
    simp only [AV.bdd, Pl.bdd]; simp at hN; omega
theorem HBs_ownB {N : Nat} {l : List AV} (h : AV.bdds N l) : HBs N (ownB l) := by
  unfold ownB
  split
  · simp [HBs_nil]
  · simp [HBs_some, HBs_nil, row_bdd, h]

theorem app_more {es b n : Nat} {old x : List AV} {X : Heap} (k : Nat) (f : Bool) (hn : old.length = n * es) (hk : (ownB old ++ X)[k]? = some (some (.row x))) (hx : x.length = es) (hes : es ≠ 0) (ho : x.all one = true) (hb : b ≤ 1000000) (hn2 : n ≤ 1000000) :
    ∃ G : Heap, G.length = (ownB old).length + X.length ∧ (∀ q, G[(ownB old).length + q]? = X[q]?) ∧ appA w0 (h ++ (ownB old ++ X)) es b (ownV es h.length n) (.sl (.own (h.length + k) 0) 1 es f) = some (.sl (.own (h.length + G.length) 0) (n + 1) es false, h ++ (G ++ [some (.row (old ++ x))])) := by
  by_cases h0 : n = 0
  · subst h0
    have : old = [] := by simpa using hn
    subst this
    exact ⟨ownB [] ++ X, by simp, fun q => by simp [ownB], by simpa only [ownV_0, List.nil_append] using app_nil (w0 := w0) (h := h) k f hk hx ho hb⟩
  · obtain ⟨q, rfl⟩ : ∃ q, n = q + 1 := ⟨n - 1, by omega⟩
    have hne : old ≠ [] := fun e => by
      rw [e] at hn
      have : 0 < (q + 1) * es := Nat.mul_pos (by omega) (by omega)
      simp at hn; omega
    have := app_own (w0 := w0) (h := h) (es := es) (b := b) (n := q + 1) (x := x) (old := old) (L := ownB old ++ X) 0 k f (by rw [ownB_ne hne]; rfl) hn hk hx ho hb hn2
    refine ⟨(ownB old ++ X).set 0 none, by simp, fun q => ?_, ?_⟩
    · rw [ownB_ne hne]; simp [Nat.add_comm 1 q]
    rw [List.length_set]
    exact this

theorem shf_lt {N i : Nat} {js : List Nat} (h : i < N) : shf N js i = i := by simp [shf, h]

mutual
theorem AV.ren_id {M : Nat} {τ : Nat → Nat} (hτ : ∀ i, i < M → τ i = i) : ∀ {v : AV}, v.bdd M → v.ren τ = v
  | .agg l, h => by simp only [AV.bdd, AV.ren] at *; rw [AV.rens_id hτ h]
  | .tup l, h => by simp only [AV.bdd, AV.ren] at *; rw [AV.rens_id hτ h]
  | .ptr (.old a), h => by simp only [AV.ren, Pl.ren]
  | .ptr (.own i o), h => by simp only [AV.bdd, Pl.bdd, AV.ren, Pl.ren] at *; rw [hτ i h]
  | .sl (.old a) _ _ _, h => by simp only [AV.ren, Pl.ren]
  | .sl (.own i o) _ _ _, h => by simp only [AV.bdd, Pl.bdd, AV.ren, Pl.ren] at *; rw [hτ i h]
  | .map i, h => by simp only [AV.bdd, AV.ren] at *; rw [hτ i h]
  | .yld i, h => by simp only [AV.bdd, AV.ren] at *; rw [hτ i h]
  | .fn _ a b, h => by simp only [AV.bdd, AV.ren] at *; rw [AV.rens_id hτ h.1, AV.rens_id hτ h.2]
  | .ifc _ v, h => by simp only [AV.bdd, AV.ren] at *; rw [AV.ren_id hτ h]
  | .undef, _ | .int _ _, _ | .bool _, _ | .str _, _ | .nilP, _ | .nilS, _ | .nilM, _ | .nilF, _ | .nilI, _ => by simp only [AV.ren]
theorem AV.rens_id {M : Nat} {τ : Nat → Nat} (hτ : ∀ i, i < M → τ i = i) : ∀ {l : List AV}, AV.bdds M l → AV.rens τ l = l
  | [], _ => by simp only [AV.rens]
  | x :: xs, h => by simp only [AV.bdds, AV.rens] at *; rw [AV.ren_id hτ h.1, AV.rens_id hτ h.2]
end

theorem ordK_id {v : AV} {L : Heap} (hr : ∀ b, some b ∈ L → ∃ c, b = .row c) (hb : HBs (h.length + L.length) L) (vb : v.bdd (h.length + L.length)) : ordK h v L v (h ++ L) := by
  have hτ : ∀ i, i < h.length + L.length → shf h.length (List.range L.length) i = i := fun i hi => by
    simp only [shf]
    split
    · rfl
    · rw [List.getD_eq_getElem?_getD, List.getElem?_range (by omega)]; simp; omega
  refine ⟨List.range L.length, L, rfl, ⟨by simp, List.nodup_range, fun j b hj => ?_, hb, vb, AV.ren_id hτ vb⟩⟩
  have hjl : j < L.length := by
    rcases Nat.lt_or_ge j L.length with h1 | h1
    · exact h1
    · rw [List.getElem?_eq_none h1] at hj; cases hj
  refine ⟨j, List.getElem?_range hjl, ?_⟩
  have hm := List.mem_of_getElem? hj
  obtain ⟨c, rfl⟩ := hr b hm
  rw [hj]
  simp only [Blk.ren]
  rw [AV.rens_id hτ (row_bdd.1 (hb _ hm))]
end
end Go.Proofs.Ab

namespace Go.Proofs.Ab
open Go

def HSub (G H : Heap) : Prop := G.length ≤ H.length ∧ ∀ (i : Nat) b, G[i]? = some (some b) → H[i]? = some (some b)

section
variable {w0 : World} {G H : Heap}
theorem HSub.rd (s : HSub G H) {p : Pl} {v : AV} (e : Ab.rd w0 G p = some v) : Ab.rd w0 H p = some v := by
  cases p with
  | old a => exact e
  | own i o =>
    simp only [Ab.rd] at e ⊢
    split at e
    · rename_i c hc; rw [s.2 _ _ hc]; exact e
    · cases e
theorem HSub.rdn (s : HSub G H) {p : Pl} {n : Nat} {v : List AV} (e : Ab.rdn w0 G p n = some v) : Ab.rdn w0 H p n = some v := by
  cases p with
  | old a => exact e
  | own i o =>
    simp only [Ab.rdn] at e ⊢
    split at e
    · rename_i c hc; rw [s.2 _ _ hc]; exact e
    · cases e
theorem Sl.sub {es : Nat} {v : AV} {rows : List (List AV)} (s : Sl w0 G es v rows) (t : HSub G H) : Sl w0 H es v rows := by
  rcases s with s | ⟨p, full, s1, s2, s3⟩
  · exact .inl s
  · exact .inr ⟨p, full, s1, Pl.bdd_mono t.1 s2, fun j c hc => t.rdn (s3 j c hc)⟩
theorem HSub.refl : HSub G G := ⟨Nat.le_refl _, fun _ _ e => e⟩
theorem HSub.app {L : Heap} (s : HSub G H) : HSub G (H ++ L) := ⟨by rw [List.length_append]; have := s.1; omega, fun i b e => getElem?_app_left (s.2 i b e)⟩
theorem HSub.trans {K : Heap} (s : HSub G H) (t : HSub H K) : HSub G K := ⟨Nat.le_trans s.1 t.1, fun i b e => t.2 i b (s.2 i b e)⟩
theorem HSub.msk {i : Nat} : HSub (G.set i none) G := ⟨by simp, fun j b e => by
  rw [List.getElem?_set] at e
  split at e
  · split at e <;> cases e
  · exact e⟩

theorem set_app_lt {α : Type} {l k : List α} {i : Nat} {x : α} (h : i < l.length) : (l ++ k).set i x = l.set i x ++ k := by
  rw [List.set_append_left _ _ h]

theorem rdn_add {p : Pl} {a b : Nat} {x y : List AV} (e : Ab.rdn w0 H p a = some x) (e2 : Ab.rdn w0 H (p.add a) b = some y) : Ab.rdn w0 H p (a + b) = some (x ++ y) := by
  cases p with
  | own i o =>
    simp only [Ab.rdn, Pl.add] at e e2 ⊢
    split at e
    · rename_i c hc
      rw [hc] at e2
      simp only at e2 ⊢
      split at e
      · split at e2
        · cases e; cases e2
          rw [if_pos (by omega), List.take_add, List.drop_drop]
        · cases e2
      · cases e
    · cases e
  | old q =>
    simp only [Ab.rdn, Pl.add] at e e2 ⊢
    rw [List.range_add, List.mapM_append, e]
    have : (List.map (fun x => a + x) (List.range b)).mapM (fun j => (w0.cell? (q.add j)).map inj) = (List.range b).mapM (fun j => (w0.cell? ((q.add a).add j)).map inj) := by
      rw [List.mapM_map]
      congr 1
      funext j
      have := Pl.add_add (p := .old q) (m := a) (n := j)
      simp only [Pl.add, Pl.old.injEq] at this
      simp [this]
    rw [this, e2]; rfl

theorem Sl.all {es : Nat} {p : Pl} : ∀ {rows : List (List AV)}, rows ≠ [] → (∀ (j : Nat) c, rows[j]? = some c → Ab.rdn w0 H (p.add (j * es)) es = some c) → Ab.rdn w0 H p (rows.length * es) = some rows.flatten
  | [], h, _ => absurd rfl h
  | [c], _, h => by
    have := h 0 c rfl
    simpa [show p.add 0 = p by cases p <;> simp [Pl.add, Addr.add]] using this
  | c :: d :: l, _, h => by
    have h0 := h 0 c rfl
    rw [Nat.zero_mul, show p.add 0 = p by cases p <;> simp [Pl.add, Addr.add]] at h0
    have := Sl.all (p := p.add es) (rows := d :: l) (by simp) fun j c hc => by
      have := h (j + 1) c (by simpa using hc)
      rw [Pl.add_add, show es + j * es = (j + 1) * es by rw [Nat.succ_mul]; omega]; exact this
    have := rdn_add h0 this
    rw [show (c :: d :: l).length * es = es + (d :: l).length * es by simp only [List.length_cons, Nat.succ_mul]; omega, List.flatten_cons]
    exact this

theorem app_full {es b n : Nat} {old : List AV} {rows : List (List AV)} {y : AV} {p : Pl} (s : Sl w0 H es y rows) (hr : rows ≠ []) (ho : ∀ c ∈ rows, c.all one = true) (hp : Ab.rdn w0 H p (n * es) = some old) (hb : b ≤ 1000000) (hn2 : n + rows.length ≤ 1000000) :
    appA w0 H es b (.sl p n es true) y = some (.sl (.own H.length 0) (n + rows.length) es false, H ++ [some (.row (old ++ rows.flatten))]) := by
  rcases s with ⟨s1, s2⟩ | ⟨q, full, s1, s2, s3⟩
  · exact absurd s2 hr
  · obtain ⟨es', rfl, he⟩ := s1
    have hr2 := Sl.all hr s3
    have hne : rows.length ≠ 0 := fun e => hr (List.eq_nil_of_length_eq_zero e)
    have hsz : (n + rows.length) * (b + 1) ≤ 2 ^ 40 := Nat.le_trans (Nat.mul_le_mul hn2 (show b + 1 ≤ 1000001 by omega)) (by decide)
    have ho2 : rows.flatten.all one = true := by
      rw [List.all_eq_true]; intro x hx
      obtain ⟨c, hc, hx⟩ := List.mem_flatten.1 hx
      exact List.all_eq_true.1 (ho c hc) x hx
    simp only [appA, srcOf, he, esOk_s, if_true, hr2, Option.map_some, Option.bind_some]
    rw [if_neg hne, if_pos ⟨trivial, hsz, ho2⟩]
    simp [hp, mkSl]
@[go_sem] theorem app_none {es b n es' : Nat} {p : Pl} {f : Bool} : appA w0 H es b (.sl p n es' f) .nilS = some (.sl p n es' f, H) := by
  simp [appA, srcOf]
end
end Go.Proofs.Ab

namespace Go.Proofs.Ab
open Go

theorem wrap_nat {n : Nat} (h : n < 2 ^ 62) : IntKind.i64.wrap n = n := by
  have h1 : (n : Int) % 2 ^ 64 = n := by omega
  simp only [IntKind.wrap, IntKind.bits, IntKind.signed, h1]
  rw [if_neg]
  simp; omega
theorem bin_or {a b : Nat} (ha : a < 2 ^ 62) (hb : b < 2 ^ 62) : bin .or (.int .i64 (a : Int)) (.int .i64 (b : Int)) = some (.int .i64 ((a ||| b : Nat) : Int)) := by
  have : a ||| b < 2 ^ 62 := Nat.or_lt_two_pow ha hb
  simp only [bin, if_true, binop, bitop]
  rw [show (BitVec.ofInt IntKind.i64.bits (a : Int) ||| BitVec.ofInt IntKind.i64.bits (b : Int)).toNat = a ||| b by
    rw [BitVec.toNat_or, BitVec.ofInt_natCast, BitVec.ofInt_natCast, BitVec.toNat_ofNat, BitVec.toNat_ofNat, Nat.mod_eq_of_lt, Nat.mod_eq_of_lt]
    · simp [IntKind.bits]; omega
    · simp [IntKind.bits]; omega]
  rw [wrap_nat this]
theorem bin_shl1 {n : Nat} (hn : n < 62) : bin .shl (.int .i64 1) (.int .i64 (n : Int)) = some (.int .i64 ((2 ^ n : Nat) : Int)) := by
  have h2 : 2 ^ n ≤ 2 ^ 61 := Nat.pow_le_pow_right (by omega) (by omega)
  have h3 : min (n : Int).toNat IntKind.i64.bits = n := by simp [IntKind.bits]; omega
  have h4 : (1 : Int) * 2 ^ n = ((2 ^ n : Nat) : Int) := by rw [Int.one_mul, Int.natCast_pow]; rfl
  simp only [bin, shiftop]
  rw [if_neg (by omega), h3, h4]
  have h5 : inK .i64 ((2 ^ n : Nat) : Int) = true := by
    have e1 : IntKind.i64.min = -9223372036854775808 := by decide
    have e2 : IntKind.i64.max = 9223372036854775807 := by decide
    simp only [inK, Bool.and_eq_true, decide_eq_true_eq, e1, e2]
    generalize 2 ^ n = m at h2
    omega
  simp only [arith, h5, if_true]
theorem bin_shr {a n : Nat} (hn : n < 62) : bin .shr (.int .i64 (a : Int)) (.int .i64 (n : Int)) = some (.int .i64 ((a / 2 ^ n : Nat) : Int)) := by
  have h3 : min (n : Int).toNat IntKind.i64.bits = n := by simp [IntKind.bits]; omega
  have h4 : (2 : Int) ^ n = ((2 ^ n : Nat) : Int) := by rw [Int.natCast_pow]; rfl
  simp only [bin, shiftop]
  rw [if_neg (by omega), h3, h4]
  simp only [Int.fdiv_eq_ediv_of_nonneg _ (Int.natCast_nonneg (2 ^ n)), Int.natCast_ediv]

def nats (l : List Nat) : List AV := l.map fun (n : Nat) => .int .i64 (n : Int)
theorem nats_get {l : List Nat} {j : Nat} (h : j < l.length) : (nats l)[j]? = some (.int .i64 (l[j] : Int)) := by simp [nats, h]
theorem nats_len {l : List Nat} : (nats l).length = l.length := by simp [nats]
theorem nats_set {l : List Nat} {j n : Nat} : (nats l).set j (.int .i64 (n : Int)) = nats (l.set j n) := by simp [nats, List.map_set]
theorem ints_set {l : List Int} {j : Nat} {n : Int} : (ints l).set j (.int .i64 n) = ints (l.set j n) := by simp [ints, List.map_set]
theorem splice_r {c : List AV} {o : Nat} {x : AV} (ho : o < c.length) : c.take o ++ x :: c.drop (o + 1) = c.set o x := by
  rw [List.set_eq_take_append_cons_drop, if_pos ho]
theorem nats_cells {l : List Nat} : cellsOf (.agg (nats l)) = some (nats l) := by
  simp only [cellsOf]; rw [if_pos]; simp [nats, one]
theorem ints_cells {l : List Int} : cellsOf (.agg (ints l)) = some (ints l) := by
  simp only [cellsOf]; rw [if_pos]; simp
end Go.Proofs.Ab

namespace Go.Proofs.Ab
open Go

def lookV (h : Heap) (sh : Bool × List Bool) (z : AV) (ok : Bool) (x k : AV) : Option AV := if (keq sh k k).isNone then none else match x with
  | .nilM => some (if ok then .tup [z, .bool false] else z)
  | .map i => match h[i]? with
    | some (some (.map es)) => match find sh k es 0 with
      | some (some (_, v)) => some (if ok then .tup [v, .bool true] else v)
      | some none => some (if ok then .tup [z, .bool false] else z)
      | none => none
    | _ => none
  | _ => none
section
variable {w0 : World} {h : Heap} {fr : Fr}
@[go_sem] theorem aop_look {sh : Bool × List Bool} {z : AV} {ok : Bool} {x k : Opd} : aop w0 (.look sh z ok x k) fr h = onV (lookV h sh z ok (x.ev fr) (k.ev fr)) h := by
  simp only [aop, lookV]
  split
  · rfl
  · cases Opd.ev fr x with
    | map i =>
      simp only
      cases h[i]? with
      | none => rfl
      | some b => cases b with
        | none => rfl
        | some b => cases b with
          | map es =>
            simp only
            cases find sh (Opd.ev fr k) es 0 with
            | none => rfl
            | some r => cases r <;> rfl
          | _ => rfl
    | _ => rfl
def mputV (h : Heap) (sh : Bool × List Bool) (m k v : AV) : Option (AV × Heap) := if (keq sh k k).isNone then none else match m with
  | .map i => match h[i]? with
    | some (some (.map es)) => match find sh k es 0 with
      | some (some (j, _)) => some (.undef, h.set i (some (.map (es.set j (k, v)))))
      | some none => some (.undef, h.set i (some (.map (es ++ [(k, v)]))))
      | none => none
    | _ => none
  | _ => none
@[go_sem] theorem aop_mput {sh : Bool × List Bool} {m k v : Opd} : aop w0 (.mput sh m k v) fr h = mputV h sh (m.ev fr) (k.ev fr) (v.ev fr) := (rfl)
theorem ACall.vc {P : Program} {f : FuncId} {first args capt : List AV} {K : AV → Heap → Prop} (c : ACall P w0 f (first ++ args ++ capt) h K) : ACallV P w0 (.fn (.func f) first capt) args h K := c
theorem HSub.keep {A B : Heap} {im i : Nat} {c : Blk} (s : HSub (A.set im none) (B.set im none)) (hne : im ≠ i) (e : A[i]? = some (some c)) : B[i]? = some (some c) := by
  have := s.2 i c (by rw [List.getElem?_set_ne hne]; exact e)
  rwa [List.getElem?_set_ne hne] at this
theorem HSub.len {A B : Heap} {im : Nat} (s : HSub (A.set im none) (B.set im none)) : A.length ≤ B.length := by have := s.1; simpa using this
end
end Go.Proofs.Ab

namespace Go.Proofs.Ab
open Go

section
variable {P : Program} {w0 : World} {h : Heap}
theorem ACall_forget {f : FuncId} {args : List AV} {K : AV → Prop} (e : ACall P w0 f args h fun v h' => HSub h h' ∧ v.bdd h.length ∧ K v) : ACall P w0 f args h fun v h1 => h1 = h ∧ K v := by
  refine ⟨e.1, fun m w vs s hv hb => (e.2 m w vs s hv hb).mono fun en w' ⟨v', e1, m', v, h', st, hvr, _, hs, hbd, hk⟩ => ?_⟩
  have hs' := hs.2
  refine ⟨v', e1, m', v, h, ⟨⟨st.sim.size, st.sim.old, fun i b hi => ?_, fun i j b c hij hi hj => st.sim.inj i j b c hij (hs' i b hi) (hs' j c hj)⟩, st.ext, st.mods, Nat.le_refl _, fun i b hi => st.roots i b (hs' i b hi)⟩, hvr, hbd, rfl, hk⟩
  obtain ⟨h1, h2, _⟩ := st.sim.at_ i b (hs' i b hi)
  exact ⟨h1, h2, (s.at_ i b hi).2.2⟩
theorem DCall_forget {f : FuncId} {args : List AV} {v : AV} (hv : v.bdd h.length) (e : ACall P w0 f args h fun v' h' => HSub h h' ∧ v' = v) : DCall P w0 f args h v h :=
  (ACall_forget (K := fun v' => v' = v) (e.mono fun _ _ ⟨h1, h2⟩ => ⟨h1, h2 ▸ hv, h2⟩)).mono fun _ _ ⟨h1, h2⟩ => ⟨h2, h1⟩
end
end Go.Proofs.Ab

namespace Go.Proofs.Ab
open Go

def layD (h : Heap) (T : List AV) (j0 : Nat) (L : Heap) : Lay :=
  ⟨fun i => if i ≤ j0 then h.length else h.length + L.length, fun i => T.getD i .undef, fun i c => if i = j0 ∧ h.length ≤ c ∧ c < h.length + L.length then some (L[c - h.length]?.join) else none⟩
def frT (T : List AV) (l : List MIx) (fr : Fr) : Nat → Fr
  | 0 => fr
  | n + 1 => Fr.put (frT T l fr n) (dstAt l n) (T.getD n .undef)
section
variable {P : Program} {w0 : World} {r : Option Nat} {nt Z : Nat} {fr : Fr} {h : Heap} {Q : Exit → Fr → Heap → Prop}
theorem finF_layD {T : List AV} {j0 : Nat} {L : Heap} {l : List MIx} : ∀ i, finF (layD h T j0 L) l fr i = frT T l fr i
  | 0 => rfl
  | i + 1 => by simp only [finF, frT, finF_layD i]; rfl
theorem layD_low {T : List AV} {j0 : Nat} {L : Heap} {S : Nat → Bool} {c : Nat} (hc : c < h.length) : ∀ n, hS (layD h T j0 L) h n S c = h[c]?.join
  | 0 => rfl
  | n + 1 => by
    simp only [hS, layD_low hc n]
    have : (layD h T j0 L).U n c = none := by simp only [layD]; rw [if_neg (by omega)]
    rw [this]; simp
theorem layD_high {T : List AV} {j0 : Nat} {L : Heap} {S : Nat → Bool} {c : Nat} (hc : h.length ≤ c) (hc2 : c < h.length + L.length) (hS0 : S j0 = true) : ∀ n, j0 < n → hS (layD h T j0 L) h n S c = L[c - h.length]?.join
  | 0, h => by omega
  | n + 1, hn => by
    simp only [hS]
    by_cases e : n = j0
    · subst e
      rw [hS0]
      have : (layD h T n L).U n c = some (L[c - h.length]?.join) := if_pos ⟨rfl, hc, hc2⟩
      rw [this]; rfl
    · have : (layD h T j0 L).U n c = none := by simp only [layD]; rw [if_neg (by omega)]
      rw [this, layD_high hc hc2 hS0 n (by omega)]; simp
theorem layD_join {k : Heap} {c : Nat} (hc : c < k.length) : some ((k[c]?).join) = k[c]? := by
  rw [List.getElem?_eq_getElem hc]; rfl
theorem layD_range {f : Nat → Option Blk} {k : Heap} {n : Nat} (hn : n = k.length) (hf : ∀ c, c < n → f c = k[c]?.join) : (List.range n).map f = k := by
  subst hn
  refine List.ext_getElem? fun c => ?_
  simp only [List.getElem?_map]
  by_cases hc : c < k.length
  · rw [List.getElem?_range hc, Option.map_some, hf c hc]; exact layD_join hc
  · rw [List.getElem?_eq_none (by simpa using hc), List.getElem?_eq_none (by omega)]; rfl
theorem EvM_lay (hm : P.follows .mixedOrders = true) {l : List MIx} {bef : List (List Nat)} (T : List AV) (j0 : Nat) (L : Heap) (hj0 : j0 < l.length) (hj : ∀ i, j0 < i → i < l.length → bfr bef i j0 = true)
    (hv : ∀ (i : Nat) x, l[i]? = some x → opV P w0 x (frT T l fr i) (if i ≤ j0 then h else h ++ L) fun v h' => v = T.getD i .undef ∧ h' = if i < j0 then h else h ++ L)
    (hQ : Q .normal (frT T l fr l.length) (h ++ L)) : EvM P w0 r nt Z (.draw l bef) fr h Q := by
  have hUl : ∀ i c, ((layD h T j0 L).U i c).isSome = true → i = j0 ∧ h.length ≤ c ∧ c < h.length + L.length := fun i c hu => by
    simp only [layD] at hu
    split at hu
    · assumption
    · cases hu
  have hnf : ∀ i, j0 < i → i < l.length → free bef i j0 = false := fun i h1 h2 => by simp [free, hj i h1 h2]
  have hview : ∀ i, i < l.length → viewH (layD h T j0 L) bef h l.length i = if i ≤ j0 then h else h ++ L := fun i hi => by
    simp only [viewH]
    by_cases e : i ≤ j0
    · rw [if_pos e]
      refine layD_range (by simp only [layD]; rw [if_pos e]) fun c hc => ?_
      have hc : c < h.length := by simp only [layD] at hc; rwa [if_pos e] at hc
      have hmk : masked (layD h T j0 L) bef l.length i c = false := by
        rw [← Bool.not_eq_true]
        intro hmk
        simp only [masked, List.any_eq_true, List.mem_range, Bool.and_eq_true] at hmk
        obtain ⟨j, _, _, hu⟩ := hmk
        have := hUl j c hu; omega
      rw [hmk]
      simpa using layD_low hc l.length
    · rw [if_neg e]
      refine layD_range (by simp only [layD]; rw [if_neg e, List.length_append]) fun c hc => ?_
      have hc : c < h.length + L.length := by simp only [layD] at hc; rwa [if_neg e] at hc
      have hmk : masked (layD h T j0 L) bef l.length i c = false := by
        rw [← Bool.not_eq_true]
        intro hmk
        simp only [masked, List.any_eq_true, List.mem_range, Bool.and_eq_true] at hmk
        obtain ⟨j, _, hf, hu⟩ := hmk
        have := (hUl j c hu).1
        subst this
        rw [hnf i (by omega) hi] at hf; cases hf
      rw [hmk]
      simp only [Bool.false_eq_true, if_false]
      rcases Nat.lt_or_ge c h.length with h1 | h1
      · rw [layD_low h1, List.getElem?_append_left h1]
      · rw [layD_high h1 hc (hj i (by omega) hi) l.length hj0, List.getElem?_append_right h1]
  have hpost : ∀ i, i < l.length → postH (layD h T j0 L) bef h l.length i = if i < j0 then h else h ++ L := fun i hi => by
    simp only [postH, hview i hi]
    by_cases e : i < j0
    · rw [if_pos e]
      refine layD_range (by simp only [layD]; rw [if_pos (by omega)]) fun c hc => ?_
      have : (layD h T j0 L).U i c = none := by simp only [layD]; rw [if_neg (by omega)]
      rw [this, if_pos (by omega)]
    · rw [if_neg e]
      refine layD_range (by simp only [layD]; rw [if_neg (by omega), List.length_append]) fun c hc => ?_
      have hc' : c < h.length + L.length := by simp only [layD] at hc; rwa [if_neg (by omega)] at hc
      by_cases e2 : i = j0
      · subst e2
        rw [if_pos (Nat.le_refl _)]
        rcases Nat.lt_or_ge c h.length with h1 | h1
        · have : (layD h T i L).U i c = none := by simp only [layD]; rw [if_neg (by omega)]
          rw [this, List.getElem?_append_left h1]
        · have : (layD h T i L).U i c = some (L[c - h.length]?.join) := if_pos ⟨rfl, h1, hc'⟩
          rw [this, List.getElem?_append_right h1]
      · have : (layD h T j0 L).U i c = none := by simp only [layD]; rw [if_neg (by omega)]
        rw [this, if_neg (by omega)]
  refine EvM_drawF (h := h) hm (layD h T j0 L) (by simp [layD]) (fun i hi => ?_) (fun i c hi hu => ?_) (fun i j c hi hj' hf hu => ?_) (fun i j hij hj' hf hN => ?_) (fun i x hx => ?_) ?_
  · simp only [layD]; split <;> split <;> omega
  · obtain ⟨rfl, h1, h2⟩ := hUl i c hu
    simp only [layD]; rw [if_neg (by omega)]; exact h2
  · obtain ⟨rfl, h1, h2⟩ := hUl i c hu
    have : j ≠ i := fun e => by subst e; simp [free] at hf
    simp only [layD]; rw [if_neg (by omega)]
  · exfalso
    have : i = j0 := by
      simp only [layD] at hN
      split at hN <;> split at hN <;> omega
    subst this
    rw [free_symm, hnf j hij hj'] at hf; cases hf
  · have hi := get_some_lt hx
    rw [finF_layD, hview i hi, hpost i hi]
    exact hv i x hx
  · rw [finF_layD]
    have : heapS (layD h T j0 L) h l.length allS = h ++ L := by
      simp only [heapS]
      refine layD_range (by simp only [layD]; rw [if_neg (by omega), List.length_append]) fun c hc => ?_
      have hc : c < h.length + L.length := by simp only [layD] at hc; rwa [if_neg (by omega)] at hc
      rcases Nat.lt_or_ge c h.length with h1 | h1
      · rw [layD_low h1, List.getElem?_append_left h1]
      · rw [layD_high h1 hc rfl l.length hj0, List.getElem?_append_right h1]
    rw [this]; exact hQ
theorem opV_call {d : Option Nat} {f : Opd} {as : List Opd} {v : AV} {h1 : Heap} (c : DCallV P w0 (f.ev fr) (as.map (·.ev fr)) h v h1) : opV P w0 (.call d none f as) fr h fun v' h' => v' = v ∧ h' = h1 := c
theorem unw_of {e : Exit} {k : List It} (c : un P w0 r nt Z Q e k fr h) : unw P w0 r nt Z Q k e fr h := c
end
end Go.Proofs.Ab

namespace Go.Proofs.Ab
open Go
section
variable {P : Program} {w0 : World} {r : Option Nat} {nt Z : Nat} {fr : Fr} {h : Heap} {Q : Exit → Fr → Heap → Prop}
theorem EvM_lay2 (hm : P.follows .mixedOrders = true) {l : List MIx} {bef : List (List Nat)} (T : List AV) (j0 : Nat) (L : Heap) (hj0 : j0 < l.length) (hbf : ∀ i, i ≤ j0 → bfr bef i j0 = false) (hbf2 : ∀ i, i < l.length → bfr bef j0 i = true → i < j0)
    (hal : ∀ i, j0 < i → i < l.length → bfr bef i j0 = false → (T.getD i .undef).al fun c => c < h.length ∨ h.length + L.length ≤ c)
    (hv : ∀ (i : Nat) x, l[i]? = some x → opV P w0 x (frT T l fr i) (if i ≤ j0 then h else if bfr bef i j0 = true then h ++ L else h ++ List.replicate L.length none) fun v h' => v = T.getD i .undef ∧ h' = if i < j0 then h else if i = j0 ∨ bfr bef i j0 = true then h ++ L else h ++ List.replicate L.length none)
    (hQ : Q .normal (frT T l fr l.length) (h ++ L)) : EvM P w0 r nt Z (.draw l bef) fr h Q := by
  have hUl : ∀ i c, ((layD h T j0 L).U i c).isSome = true → i = j0 ∧ h.length ≤ c ∧ c < h.length + L.length := fun i c hu => by
    simp only [layD] at hu
    split at hu
    · assumption
    · cases hu
  have hUs : ∀ c, h.length ≤ c → c < h.length + L.length → (layD h T j0 L).U j0 c = some (L[c - h.length]?.join) := fun c h1 h2 => if_pos ⟨rfl, h1, h2⟩
  have hnf : ∀ i, bfr bef i j0 = true → free bef i j0 = false := fun i h => by simp [free, h]
  have hyf : ∀ i, j0 < i → i < l.length → bfr bef i j0 = false → free bef i j0 = true := fun i h1 h3 h2 => by
    have e1 : Nat.beq j0 i = false := by
      cases hb : Nat.beq j0 i with
      | false => rfl
      | true => have := beq_iff.1 hb; omega
    have e2 : bfr bef j0 i = false := by
      cases hb : bfr bef j0 i with
      | false => rfl
      | true => have := hbf2 i h3 hb; omega
    simp [free, e1, e2, h2]
  have hview : ∀ i, i < l.length → viewH (layD h T j0 L) bef h l.length i = if i ≤ j0 then h else if bfr bef i j0 = true then h ++ L else h ++ List.replicate L.length none := fun i hi => by
    simp only [viewH]
    by_cases e : i ≤ j0
    · rw [if_pos e]
      refine layD_range (by simp only [layD]; rw [if_pos e]) fun c hc => ?_
      have hc : c < h.length := by simp only [layD] at hc; rwa [if_pos e] at hc
      have hmk : masked (layD h T j0 L) bef l.length i c = false := by
        rw [← Bool.not_eq_true]
        intro hmk
        simp only [masked, List.any_eq_true, List.mem_range, Bool.and_eq_true] at hmk
        obtain ⟨j, _, _, hu⟩ := hmk
        have := hUl j c hu; omega
      rw [hmk]
      simpa using layD_low hc l.length
    · rw [if_neg e]
      by_cases eb : bfr bef i j0 = true
      · rw [if_pos eb]
        refine layD_range (by simp only [layD]; rw [if_neg e, List.length_append]) fun c hc => ?_
        have hc : c < h.length + L.length := by simp only [layD] at hc; rwa [if_neg e] at hc
        have hmk : masked (layD h T j0 L) bef l.length i c = false := by
          rw [← Bool.not_eq_true]
          intro hmk
          simp only [masked, List.any_eq_true, List.mem_range, Bool.and_eq_true] at hmk
          obtain ⟨j, _, hf, hu⟩ := hmk
          have := (hUl j c hu).1
          subst this
          rw [hnf i eb] at hf; cases hf
        rw [hmk]
        simp only [Bool.false_eq_true, if_false]
        rcases Nat.lt_or_ge c h.length with h1 | h1
        · rw [layD_low h1, List.getElem?_append_left h1]
        · rw [layD_high h1 hc eb l.length hj0, List.getElem?_append_right h1]
      · rw [if_neg eb]
        have eb : bfr bef i j0 = false := by simpa using eb
        refine layD_range (by simp only [layD]; rw [if_neg e, List.length_append, List.length_replicate]) fun c hc => ?_
        have hc : c < h.length + L.length := by simp only [layD] at hc; rwa [if_neg e] at hc
        rcases Nat.lt_or_ge c h.length with h1 | h1
        · have hmk : masked (layD h T j0 L) bef l.length i c = false := by
            rw [← Bool.not_eq_true]
            intro hmk
            simp only [masked, List.any_eq_true, List.mem_range, Bool.and_eq_true] at hmk
            obtain ⟨j, _, _, hu⟩ := hmk
            have := hUl j c hu; omega
          rw [hmk, List.getElem?_append_left h1]
          simpa using layD_low h1 l.length
        · have hmk : masked (layD h T j0 L) bef l.length i c = true := by
            simp only [masked, List.any_eq_true, List.mem_range, Bool.and_eq_true]
            exact ⟨j0, hj0, hyf i (by omega) hi eb, by rw [hUs c h1 hc]; rfl⟩
          rw [hmk, if_pos rfl, List.getElem?_append_right h1, List.getElem?_replicate, if_pos (by omega)]; rfl
  have hpost : ∀ i, i < l.length → postH (layD h T j0 L) bef h l.length i = if i < j0 then h else if i = j0 ∨ bfr bef i j0 = true then h ++ L else h ++ List.replicate L.length none := fun i hi => by
    simp only [postH, hview i hi]
    by_cases e : i < j0
    · rw [if_pos e]
      refine layD_range (by simp only [layD]; rw [if_pos (by omega)]) fun c hc => ?_
      have : (layD h T j0 L).U i c = none := by simp only [layD]; rw [if_neg (by omega)]
      rw [this, if_pos (by omega)]
    · rw [if_neg e]
      by_cases e2 : i = j0
      · subst e2
        rw [if_pos (show i = i ∨ bfr bef i i = true from .inl rfl)]
        refine layD_range (by simp only [layD]; rw [if_neg (by omega), List.length_append]) fun c hc => ?_
        have hc' : c < h.length + L.length := by simp only [layD] at hc; rwa [if_neg (by omega)] at hc
        rw [if_pos (Nat.le_refl _)]
        rcases Nat.lt_or_ge c h.length with h1 | h1
        · have : (layD h T i L).U i c = none := by simp only [layD]; rw [if_neg (by omega)]
          rw [this, List.getElem?_append_left h1]
        · rw [hUs c h1 hc', List.getElem?_append_right h1]
      · rw [if_neg (show ¬ i ≤ j0 by omega)]
        have hl : (layD h T j0 L).N (i + 1) = h.length + L.length := by simp only [layD]; rw [if_neg (by omega)]
        by_cases eb : bfr bef i j0 = true
        · rw [if_pos eb, if_pos (.inr eb)]
          refine layD_range (by rw [hl, List.length_append]) fun c hc => ?_
          have : (layD h T j0 L).U i c = none := by simp only [layD]; rw [if_neg (by omega)]
          rw [this]
        · rw [if_neg eb, if_neg (by rintro (a | a); exact e2 a; exact eb a)]
          refine layD_range (by rw [hl, List.length_append, List.length_replicate]) fun c hc => ?_
          have : (layD h T j0 L).U i c = none := by simp only [layD]; rw [if_neg (by omega)]
          rw [this]
  refine EvM_drawF (h := h) hm (layD h T j0 L) (by simp [layD]) (fun i hi => ?_) (fun i c hi hu => ?_) (fun i j c hi hj' hf hu => ?_) (fun i j hij hj' hf hN => ?_) (fun i x hx => ?_) ?_
  · simp only [layD]; split <;> split <;> omega
  · obtain ⟨rfl, h1, h2⟩ := hUl i c hu
    simp only [layD]; rw [if_neg (by omega)]; exact h2
  · obtain ⟨rfl, h1, h2⟩ := hUl i c hu
    have : j ≠ i := fun e => by subst e; simp [free] at hf
    simp only [layD]; rw [if_neg (by omega)]
  · have : i = j0 := by
      simp only [layD] at hN
      split at hN <;> split at hN <;> omega
    subst this
    have eb : bfr bef j i = false := by
      cases hb : bfr bef j i with
      | false => rfl
      | true => rw [free_symm, hnf j hb] at hf; cases hf
    have hn0 : (layD h T i L).N i = h.length := by simp [layD]
    have hn1 : (layD h T i L).N (i + 1) = h.length + L.length := by simp only [layD]; rw [if_neg (by omega)]
    have hUj : ∀ c, (layD h T i L).U j c = none := fun c => by simp only [layD]; rw [if_neg (by omega)]
    refine ⟨AV.al_mono (fun c hc => ?_) _ (hal j hij hj' eb), fun c => ⟨fun _ _ => hUj c, fun b hb => by rw [hUj c] at hb; cases hb⟩⟩
    simp only [outI, hn0, hn1]; exact hc
  · have hi := get_some_lt hx
    rw [finF_layD, hview i hi, hpost i hi]
    exact hv i x hx
  · rw [finF_layD]
    have : heapS (layD h T j0 L) h l.length allS = h ++ L := by
      simp only [heapS]
      refine layD_range (by simp only [layD]; rw [if_neg (by omega), List.length_append]) fun c hc => ?_
      have hc : c < h.length + L.length := by simp only [layD] at hc; rwa [if_neg (by omega)] at hc
      rcases Nat.lt_or_ge c h.length with h1 | h1
      · rw [layD_low h1, List.getElem?_append_left h1]
      · rw [layD_high h1 hc rfl l.length hj0, List.getElem?_append_right h1]
    rw [this]; exact hQ
end
end Go.Proofs.Ab

namespace Go.Proofs.Ab
open Go

inductive Rw where
  | nil
  | int (r : Rw)
  | bool (r : Rw)
  | sl (e r : Rw)

def Rw.size : Rw → Nat
  | .nil => 0
  | .int r | .bool r | .sl _ r => r.size + 1
def Rw.app : Rw → Rw → Rw
  | .nil, b => b
  | .int r, b => .int (r.app b)
  | .bool r, b => .bool (r.app b)
  | .sl e r, b => .sl e (r.app b)

def rowFs (P : Program) (rec : TypeId → Option Rw) : List Field → Nat → Option Rw
  | [], _ => some .nil
  | f :: fs, off => if Nat.beq f.offset off then (rec f.type).bind fun a => if Nat.beq (P.cellsOf f.type) a.size then (rowFs P rec fs (off + a.size)).map (a.app ·) else none else none
def rowOf (P : Program) : Nat → TypeId → Option Rw
  | 0, _ => none
  | n + 1, t => match P.underlying t with
    | some .bool => some (.bool .nil)
    | some (.int .i64) => some (.int .nil)
    | some (.slice e) => (rowOf P n e).bind fun r => if Nat.beq (P.cellsOf e) r.size then some (.sl r .nil) else none
    | some (.struct fs) => (rowFs P (rowOf P n) fs.toList 0).bind fun r => if Nat.beq (P.cellsOf t) r.size then some r else none
    | _ => none

def Gd (w : World) : Rw → List Value → Prop
  | .nil, cs => cs = []
  | .int r, cs => ∃ n cs', cs = .int .i64 n :: cs' ∧ I64 n ∧ Gd w r cs'
  | .bool r, cs => ∃ b cs', cs = .bool b :: cs' ∧ Gd w r cs'
  | .sl e r, cs => ∃ v cs', cs = v :: cs' ∧ (v = .slice none 0 0 ∨ ∃ a len cap, v = .slice (some a) len cap ∧ len ≤ cap ∧ cap ≤ maxLen ∧ ∀ i, i < len → ∃ c, w.cells? 0 (a.add (i * e.size)) e.size = some c ∧ Gd w e c) ∧ Gd w r cs'

theorem Gd.len {w : World} : ∀ {r : Rw} {cs : List Value}, Gd w r cs → cs.length = r.size
  | .nil, cs, h => by cases h; rfl
  | .int r, cs, ⟨n, cs', e, _, h⟩ => by subst e; simp [Rw.size, h.len]
  | .bool r, cs, ⟨n, cs', e, h⟩ => by subst e; simp [Rw.size, h.len]
  | .sl _ r, cs, ⟨n, cs', e, _, h⟩ => by subst e; simp [Rw.size, h.len]
theorem Gd.app {w : World} {b : Rw} {ds : List Value} (hb : Gd w b ds) : ∀ {a : Rw} {cs : List Value}, Gd w a cs → Gd w (a.app b) (cs ++ ds)
  | .nil, cs, h => by cases h; exact hb
  | .int r, cs, ⟨n, cs', e, h1, h⟩ => by subst e; exact ⟨n, _, rfl, h1, hb.app h⟩
  | .bool r, cs, ⟨n, cs', e, h⟩ => by subst e; exact ⟨n, _, rfl, hb.app h⟩
  | .sl _ r, cs, ⟨n, cs', e, h1, h⟩ => by subst e; exact ⟨n, _, rfl, h1, hb.app h⟩

theorem nat_beq {a b : Nat} (h : Nat.beq a b = true) : a = b := Nat.eq_of_beq_eq_true h

section
variable {H : Type} {enc : TypeId × Value → H} {P : Program} {w : World} {spare : Nat → Bool} {held : Bool}

theorem gd_fields {fuel : Nat} {rec : TypeId → Option Rw} (ih : ∀ (t : TypeId) (r : Rw) (cs : List Value) x, rec t = some r → DataW.trod enc P w 0 spare held fuel t cs = some x → Gd w r cs) :
    ∀ (fs : List Field) (off : Nat) (r : Rw) (cs : List Value) xs, rowFs P rec fs off = some r → cs.length = off + r.size →
      (fs.mapM fun f => DataW.trod enc P w 0 spare held fuel f.type ((cs.drop f.offset).take (P.cellsOf f.type))) = some xs → Gd w r (cs.drop off)
  | [], off, r, cs, xs, h1, h2, _ => by
    simp only [rowFs, Option.some.injEq] at h1
    subst h1
    simp only [Rw.size] at h2
    simp only [Gd]
    exact List.drop_eq_nil_of_le (by omega)
  | f :: fs, off, r, cs, xs, h1, h2, h3 => by
    simp only [rowFs] at h1
    split at h1
    · rename_i ho
      have ho := nat_beq ho
      simp only [Option.bind_eq_some_iff] at h1
      obtain ⟨a, ha, h1⟩ := h1
      split at h1
      · rename_i hs
        have hs := nat_beq hs
        simp only [Option.map_eq_some_iff] at h1
        obtain ⟨b, hb, rfl⟩ := h1
        simp only [List.mapM_cons, Option.bind_eq_bind, Option.bind_eq_some_iff] at h3
        obtain ⟨y, hy, ys, hys, _⟩ := h3
        have hsz : ∀ a b : Rw, (a.app b).size = a.size + b.size := fun a b => by
          induction a with
          | nil => simp [Rw.app, Rw.size]
          | int r ih => simp only [Rw.app, Rw.size, ih]; omega
          | bool r ih => simp only [Rw.app, Rw.size, ih]; omega
          | sl e r _ ih => simp only [Rw.app, Rw.size, ih]; omega
        rw [hsz] at h2
        have g1 := ih _ _ _ _ ha hy
        rw [ho, hs] at g1
        have g2 := gd_fields ih fs (off + a.size) b cs ys hb (by omega) hys
        have e : cs.drop off = (cs.drop off).take a.size ++ cs.drop (off + a.size) := by
          rw [← List.drop_drop, List.take_append_drop]
        rw [e]
        exact g2.app g1
      · cases h1
    · cases h1

theorem gd_of_trod : ∀ (n : Nat) {fuel : Nat} {t : TypeId} {r : Rw} {cs : List Value} {x : DataW H × List MemPlace}, rowOf P n t = some r → DataW.trod enc P w 0 spare held fuel t cs = some x → Gd w r cs
  | 0, _, _, _, _, _, h, _ => by cases h
  | n + 1, 0, _, _, _, _, _, h => by cases h
  | n + 1, fuel + 1, t, r, cs, x, h1, h2 => by
    simp only [rowOf] at h1
    generalize hu : P.underlying t = u at h1
    unfold DataW.trod at h2
    rw [hu] at h2
    match u, h1 with
    | some .bool, h1 =>
      cases h1
      match cs, h2 with
      | [.bool b], _ => exact ⟨b, [], rfl, rfl⟩
    | some (.int .i64), h1 =>
      cases h1
      match cs, h2 with
      | [.int k' m], h2 =>
        simp only [Option.ite_none_right_eq_some] at h2
        obtain ⟨⟨hk, hw⟩, _⟩ := h2
        subst hk
        simp only [Lit.wf, Bool.and_eq_true, decide_eq_true_eq] at hw
        exact ⟨m, [], rfl, by simpa [I64, IntKind.min, IntKind.max, IntKind.bits, IntKind.signed] using hw, rfl⟩
    | some (.slice e), h1 =>
      simp only [Option.bind_eq_some_iff] at h1
      obtain ⟨re, hre, h1⟩ := h1
      split at h1
      · rename_i hs
        have hs := nat_beq hs
        cases h1
        match cs, h2 with
        | [.slice none 0 0], _ => exact ⟨_, [], rfl, .inl rfl, rfl⟩
        | [.slice (some a) len cap], h2 =>
          simp only [Option.ite_none_right_eq_some] at h2
          obtain ⟨⟨_, hlc, hcm⟩, h2⟩ := h2
          simp only [Option.bind_eq_some_iff] at h2
          obtain ⟨elems, hel, _⟩ := h2
          refine ⟨_, [], rfl, .inr ⟨a, len, cap, rfl, hlc, hcm, fun i hi => ?_⟩, rfl⟩
          have key : ∀ (l : List Nat) (ys : List (DataW H × List MemPlace)), (l.mapM fun i => (w.cells? 0 (a.add (i * P.cellsOf e)) (P.cellsOf e)).bind (DataW.trod enc P w 0 spare held fuel e)) = some ys →
              ∀ i ∈ l, ∃ c y, w.cells? 0 (a.add (i * P.cellsOf e)) (P.cellsOf e) = some c ∧ DataW.trod enc P w 0 spare held fuel e c = some y := by
            intro l
            induction l with
            | nil => intro ys _ i hi; cases hi
            | cons b l ih =>
              intro ys h i hi
              simp only [List.mapM_cons, Option.bind_eq_bind, Option.bind_eq_some_iff] at h
              obtain ⟨y, ⟨c, hc, hy⟩, ys', hys, _⟩ := h
              rcases List.mem_cons.1 hi with rfl | hi
              · exact ⟨c, y, hc, hy⟩
              · exact ih ys' hys i hi
          obtain ⟨c, y, hc, hy⟩ := key _ _ hel i (List.mem_range.2 hi)
          rw [hs] at hc
          exact ⟨c, hc, gd_of_trod n hre hy⟩
      · cases h1
    | some (.struct fs), h1 =>
      simp only [Option.bind_eq_some_iff] at h1
      obtain ⟨re, hre, h1⟩ := h1
      split at h1
      · rename_i hs
        have hs := nat_beq hs
        cases h1
        have h2' : (if cs.length = P.cellsOf t then (fs.toList.mapM fun f => DataW.trod enc P w 0 spare held fuel f.type ((cs.drop f.offset).take (P.cellsOf f.type))).map fun xs => (DataW.agg (xs.map (·.1)), xs.flatMap (·.2)) else none) = some x := by
          cases cs with
          | nil => exact h2
          | cons c cs => exact h2
        split at h2'
        · rename_i hl
          simp only [Option.map_eq_some_iff] at h2'
          obtain ⟨xs, hxs, _⟩ := h2'
          have := gd_fields (fun t r cs x h1 h2 => gd_of_trod n h1 h2) fs.toList 0 r cs xs hre (by omega) hxs
          simpa using this
        · cases h2'
      · cases h1
end
end Go.Proofs.Ab

namespace Go.Proofs.Ab
open Go Go.ChangeShapes Go.WideShapes Go.ChangeAt Go.RowKit

def injV : Value → AV
  | .agg cs => .agg (cs.toList.map inj)
  | v => inj v

theorem injV_one {v : Value} (h : ∀ cs, v ≠ .agg cs) : injV v = inj v := by
  cases v <;> first | rfl | exact absurd rfl (h _)
theorem VR_injV (m : Emb) (N : Nat) (v : Value) : VR m (injV v) v ∧ (injV v).bdd N := by
  have key : ∀ l : List Value, VRs m (l.map inj) l ∧ AV.bdds N (l.map inj) := fun l => by
    induction l with
    | nil => exact ⟨rfl, trivial⟩
    | cons x l ih => exact ⟨⟨x, l, rfl, (VR_inj m N x).1, ih.1⟩, (VR_inj m N x).2, ih.2⟩
  by_cases h : ∃ cs, v = .agg cs
  · obtain ⟨cs, rfl⟩ := h
    exact ⟨⟨cs, rfl, (key _).1⟩, (key _).2⟩
  · rw [injV_one fun cs e => h ⟨cs, e⟩]
    exact VR_inj m N v
theorem VRs_injV (m : Emb) (N : Nat) : ∀ l : List Value, VRs m (l.map injV) l ∧ AV.bdds N (l.map injV)
  | [] => ⟨rfl, trivial⟩
  | x :: l => ⟨⟨x, l, rfl, (VR_injV m N x).1, (VRs_injV m N l).1⟩, (VR_injV m N x).2, (VRs_injV m N l).2⟩

def isAgg (P : Program) (t : TypeId) : Bool := match P.underlying t with
  | some (.struct _) => true
  | _ => false
def GArg (P : Program) (w : World) (t : TypeId) (v : Value) : Prop :=
  ∃ r, rowOf P 8 t = some r ∧ ((isAgg P t = true ∧ ∃ cs, v = .agg cs ∧ Gd w r cs.toList) ∨ (isAgg P t = false ∧ Gd w r [v] ∧ ∀ cs, v ≠ .agg cs))
def GArgs (P : Program) (w : World) : List TypeId → List Value → Prop
  | [], [] => True
  | t :: ts, v :: vs => GArg P w t v ∧ GArgs P w ts vs
  | _, _ => False

section
variable {P : Program} {w : World} {t : TypeId} {v : Value}
theorem GArg.agg (g : GArg P w t v) (ha : isAgg P t = true) {r : Rw} (hr : rowOf P 8 t = some r) : ∃ cs, injV v = .agg (cs.map inj) ∧ Gd w r cs := by
  obtain ⟨r', h1, ⟨_, cs, h2, h3⟩ | ⟨h2, _⟩⟩ := g
  · rw [hr] at h1; cases h1; subst h2
    exact ⟨cs.toList, rfl, h3⟩
  · rw [ha] at h2; cases h2
theorem GArg.one (g : GArg P w t v) (ha : isAgg P t = false) {r : Rw} (hr : rowOf P 8 t = some r) : injV v = inj v ∧ Gd w r [v] := by
  obtain ⟨r', h1, ⟨h2, _⟩ | ⟨_, h2, h3⟩⟩ := g
  · rw [ha] at h2; cases h2
  · rw [hr] at h1; cases h1
    exact ⟨injV_one h3, h2⟩
theorem GArgs.nil {vs : List Value} (g : GArgs P w [] vs) : vs = [] := by cases vs with
  | nil => rfl
  | cons => exact g.elim
theorem GArgs.cons {ts : List TypeId} {vs : List Value} (g : GArgs P w (t :: ts) vs) : ∃ v us, vs = v :: us ∧ GArg P w t v ∧ GArgs P w ts us := by cases vs with
  | nil => exact g.elim
  | cons v us => exact ⟨v, us, rfl, g.1, g.2⟩
end

section
variable {H : Type} {enc : TypeId × Value → H} {P : Program} {w : World}

theorem garg_of {base : Nat} {t : TypeId} {v : Value} {d : DataW H} {ps : List MemPlace} (hr : (rowOf P 8 t).isSome = true) (ok : Value.okWide P w .any base t v)
    (h : DataW.Trod enc P w 0 (fun _ => true) true t v d ps) : GArg P w t v := by
  obtain ⟨r, hr⟩ := Option.isSome_iff_exists.1 hr
  obtain ⟨fuel, h⟩ := h
  have g := gd_of_trod 8 hr h
  refine ⟨r, hr, ?_⟩
  have hr' := hr
  rw [show (8 : Nat) = 7 + 1 from rfl, rowOf] at hr'
  simp only [Value.okWide] at ok
  unfold isAgg
  generalize hu : P.underlying t = u at hr' ok ⊢
  match u, hr' with
  | some (.struct fs), _ =>
    obtain ⟨cs, rfl, _, _⟩ := ok
    exact .inl ⟨rfl, cs, rfl, g⟩
  | some .bool, _ =>
    simp only [Cell.okWide, hu] at ok
    cases v with
    | bool b => exact .inr ⟨rfl, g, fun cs e => by cases e⟩
    | _ => simp [Cell.ok, hu] at ok
  | some (.int .i64), _ =>
    simp only [Cell.okWide, hu] at ok
    cases v with
    | int k n => exact .inr ⟨rfl, g, fun cs e => by cases e⟩
    | _ => simp [Cell.ok, hu] at ok
  | some (.slice e), _ =>
    simp only [Cell.okWide, hu] at ok
    cases v with
    | slice a l c => exact .inr ⟨rfl, g, fun cs e => by cases e⟩
    | _ => simp [Cell.ok, hu] at ok

theorem gargs_of {base : Nat} : ∀ {ts : List TypeId} {vs : List Value} {ds : List (DataW H)} {ps : List MemPlace}, (∀ t ∈ ts, (rowOf P 8 t).isSome = true) →
    (∀ (j : Nat) t v, ts[j]? = some t → vs[j]? = some v → Value.okWide P w .any base t v) → DataW.TrodAll enc P w 0 (fun _ => true) true ts vs ds ps → GArgs P w ts vs
  | [], [], [], _, _, _, _ => trivial
  | t :: ts, v :: vs, d :: ds, ps, hr, ok, ⟨p, q, h1, h2, _⟩ =>
    ⟨garg_of (hr t List.mem_cons_self) (ok 0 t v rfl rfl) h1, gargs_of (fun t ht => hr t (List.mem_cons_of_mem _ ht)) (fun j t v a b => ok (j + 1) t v (by simpa using a) (by simpa using b)) h2⟩
  | [], [], _ :: _, _, _, _, h => h.elim
  | [], _ :: _, _, _, _, _, h => h.elim
  | _ :: _, [], _, _, _, _, h => h.elim
  | _ :: _, _ :: _, [], _, _, _, h => h.elim

theorem trodAll_below {W W' : World} (hl : laidOutB P = true) (hb : Below W.heap.size W W') : ∀ {ts : List TypeId} {vs : List Value} {ds : List (DataW H)} {ps : List MemPlace}, (∀ t ∈ ts, P.readableRec t = true ∧ t < P.types.size) →
    DataW.TrodAll enc P W 0 (fun _ => true) true ts vs ds ps → DataW.TrodAll enc P W' 0 (fun b => decide (b < W.heap.size)) true ts vs ds ps
  | [], [], [], _, _, h => h
  | t :: ts, v :: vs, d :: ds, ps, hr, h => by
    have hlt := DataW.TrodAll.lt h
    obtain ⟨p, q, h1, h2, rfl⟩ := h
    have ⟨r1, r2⟩ := hr t List.mem_cons_self
    exact ⟨p, q, Below.trod hl r1 r2 h1 hb (fun x hx => hlt x (List.mem_append_left _ hx)), trodAll_below hl hb (fun t ht => hr t (List.mem_cons_of_mem _ ht)) h2, rfl⟩
  | [], [], _ :: _, _, _, h => h.elim
  | [], _ :: _, _, _, _, h => h.elim
  | _ :: _, [], _, _, _, h => h.elim
  | _ :: _, _ :: _, [], _, _, h => h.elim

theorem law_lift {C : Checked} {os : Os} {f : FuncId} {fn : Func} {s : ChangeSpec} {conds : List PathCond} {tb : TypeId}
    (own : ownKnob C.prog.godebug = none) (started : os.Started) (noInit : C.prog.inits.idxOf? f = none) (hfn : C.prog.funcs[f]? = some fn)
    (witness : ∃ (w : World) (tape : Tape) (i : Input), w.os = os ∧ (w.forCall tape i).Shaped C.prog ∧ i.vars = [] ∧ Input.okWide C.prog (w.forCall tape i) .any w.heap.size f i ∧
      s.pre6 enc C.prog fn conds false (w.forCall tape i).memory i.args ∧ Assume.holds {} C.prog (lone (Frame.enter C.prog f i.args .normal) [] (w.forCall tape i)))
    (hvars : s.vars = []) (hs : ∀ (G : Type) (ds : List (DataW G)), ds.length = fn.params.toList.length → s.fn G ds = { results := [.lit (.bool true)], args := ds })
    (hres : fn.resultTypes = #[tb]) (htb : C.prog.underlying tb = some .bool) (hl : laidOutB C.prog = true)
    (hts : (fn.params.toList.all fun t => (rowOf C.prog 8 t).isSome && (C.prog.readableRec t && decide (t < C.prog.types.size))) = true)
    (law : ∀ (W : World) (vs : List Value), GArgs C.prog W fn.params.toList vs → ACall C.prog W f (vs.map injV) [] fun v _ => v = .bool true) :
    ReturnsInHanded {} C os f .any (s.pre6 enc C.prog fn conds false) (s.post enc C.prog fn false true false false) := by
  refine returnsInHanded_of_change own started noInit hfn witness ?_
  intro W base args ds gs before hval hW _ _
  have hts' : ∀ t ∈ fn.params.toList, (rowOf C.prog 8 t).isSome = true ∧ C.prog.readableRec t = true ∧ t < C.prog.types.size := fun t ht => by
    have := List.all_eq_true.1 hts t ht
    simpa using this
  have hW' := hW
  obtain ⟨p, q, hA, hV, rfl, _, _⟩ := hW
  have hlen := trodAll_length hA
  rw [hvars] at hV
  have hq : gs = [] ∧ q = [] := by
    cases gs with
    | nil => exact ⟨rfl, hV⟩
    | cons => exact hV.elim
  obtain ⟨rfl, rfl⟩ := hq
  have hg : GArgs C.prog W fn.params.toList args.toList := gargs_of (fun t ht => (hts' t ht).1) (fun j t v a b => hval j t v (by simpa using a) (by simpa using b)) hA
  have hc := (law W args.toList hg).2 ⟨fun _ => 0, fun _ => 0, fun _ => 0⟩ W args ⟨Nat.le_refl _, fun _ _ => rfl, fun i b e => by simp at e, fun i j b c _ e => by simp at e⟩ (VRs_injV _ 0 _).1 (VRs_injV ⟨fun _ => 0, fun _ => 0, fun _ => 0⟩ _ _).2
  refine (callsIn_wide.1 hc).mono fun e W' ⟨v', he, m', v, h', st, hv, _, hb⟩ => ⟨v', he, ?_⟩
  subst hb
  simp only [VR] at hv
  subst hv
  have hbl : Below W.heap.size W W' := ⟨st.mods.os, st.mods.tape, st.mods.output, st.mods.size, fun k hk => st.mods.same k hk fun i b e => by simp at e⟩
  have hsp := hs H (ds ++ []) (by simp [hlen.2])
  refine ⟨ds, [], p ++ [], [], p, [], hW', ?_, ?_, ?_, ⟨hbl.os, hbl.output, fun i hi => ?_⟩, fun h => by cases h⟩
  · rw [hsp, hres]
    exact trodAll_mk1 (shut_bool htb true)
  · rw [hsp]
    rw [List.append_nil]
    exact trodAll_below hl hbl (fun t ht => (hts' t ht).2) hA
  · rw [hvars, hsp]; rfl
  · rw [hbl.block i hi]
    cases W.heap[i]? with
    | none => rfl
    | some o => cases o with
      | cells c t fr => exact ⟨rfl, rfl, rfl, fun _ _ => rfl⟩
      | map es clock => exact .inr ⟨rfl, rfl⟩
      | _ => rfl
end
end Go.Proofs.Ab

namespace Go.Proofs.Ab
open Go

section
variable {w : World} {h : Heap}
theorem rdn_old {a : Addr} {n : Nat} {cs : List Value} (e : w.cells? 0 a n = some cs) : rdn w h (.old a) n = some (cs.map inj) := by
  have key : ∀ (l : List Nat) (cs : List Value), (l.mapM fun i => w.cell? (a.add i)) = some cs → (l.mapM fun j => (w.cell? (a.add j)).map inj) = some (cs.map inj) := by
    intro l
    induction l with
    | nil => intro cs h; simp at h; subst h; rfl
    | cons x l ih =>
      intro cs h
      simp only [List.mapM_cons, Option.bind_eq_bind, Option.bind_eq_some_iff] at h
      obtain ⟨y, hy, ys, hys, h⟩ := h
      cases h
      simp only [List.mapM_cons, hy, ih ys hys, Option.map_some, Option.bind_eq_bind, Option.bind_some]; rfl
  simp only [World.cells?, Nat.zero_le, if_true] at e
  exact key _ _ e

def SliceIn (w : World) (e : Rw) (v : Value) : Prop := v = .slice none 0 0 ∨ ∃ a len cap, v = .slice (some a) len cap ∧ len ≤ cap ∧ cap ≤ maxLen ∧ ∀ i, i < len → ∃ c, w.cells? 0 (a.add (i * e.size)) e.size = some c ∧ Gd w e c
theorem rows_of {e : Rw} {v : Value} (g : SliceIn w e v) : ∃ rows, Sl w h e.size (inj v) rows ∧ rows.length ≤ 9223372036854775807 ∧ ∀ c ∈ rows, ∃ cs, c = cs.map inj ∧ Gd w e cs := by
  rcases g with rfl | ⟨a, len, cap, rfl, h1, h2, h3⟩
  · exact ⟨[], .inl ⟨rfl, rfl⟩, by simp, fun c hc => by cases hc⟩
  · refine ⟨(List.range len).map fun i => ((w.cells? 0 (a.add (i * e.size)) e.size).getD []).map inj, ?_, ?_, ?_⟩
    · refine .inr ⟨.old a, false, ⟨0, ?_, rfl⟩, trivial, fun j c hc => ?_⟩
      · simp only [inj, if_pos h1, List.length_map, List.length_range]
      · simp only [List.getElem?_map, Option.map_eq_some_iff] at hc
        obtain ⟨i, hi, rfl⟩ := hc
        have hj := hi
        have hjl : j < len := by have := List.getElem?_eq_some_iff.1 hi; simpa using this.1
        rw [List.getElem?_range hjl] at hi
        cases hi
        obtain ⟨c, hc, _⟩ := h3 j hjl
        simp only [Pl.add, hc, Option.getD_some]
        exact rdn_old hc
    · simp only [List.length_map, List.length_range]
      have : maxLen = 9223372036854775807 := rfl
      omega
    · intro c hc
      simp only [List.mem_map, List.mem_range] at hc
      obtain ⟨i, hi, rfl⟩ := hc
      obtain ⟨c, hc, g⟩ := h3 i hi
      exact ⟨c, by rw [hc]; rfl, g⟩
theorem rows_map {α : Type} {f : α → List AV} {p : α → Prop} : ∀ {rows : List (List AV)}, (∀ c ∈ rows, ∃ a, c = f a ∧ p a) → ∃ l : List α, rows = l.map f ∧ ∀ a ∈ l, p a
  | [], _ => ⟨[], rfl, fun a ha => by cases ha⟩
  | c :: rows, hc => by
    obtain ⟨a, rfl, ha⟩ := hc c List.mem_cons_self
    obtain ⟨l, rfl, hl⟩ := rows_map (rows := rows) fun c' hc' => hc c' (List.mem_cons_of_mem _ hc')
    refine ⟨a :: l, rfl, fun x hx => ?_⟩
    rcases List.mem_cons.1 hx with rfl | hx
    · exact ha
    · exact hl x hx
theorem slice_of {α : Type} {e : Rw} {n : Nat} {v : Value} (f : α → List AV) (hn : e.size = n) (g : SliceIn w e v) (he : ∀ cs, Gd w e cs → ∃ a, cs.map inj = f a) : ∃ l : List α, Sl w h n (inj v) (l.map f) ∧ l.length ≤ 9223372036854775807 := by
  obtain ⟨rows, h1, h2, h3⟩ := rows_of (h := h) g
  obtain ⟨l, rfl, _⟩ := rows_map (f := f) (p := fun _ => True) (rows := rows) fun c hc => by
    obtain ⟨cs, rfl, g⟩ := h3 c hc
    obtain ⟨a, ha⟩ := he cs g
    exact ⟨a, ha, trivial⟩
  exact ⟨l, hn ▸ h1, by simpa using h2⟩
theorem ints_of {v : Value} (g : SliceIn w (.int .nil) v) : ∃ l : List Int, Sl w h 1 (inj v) (l.map fun z => [AV.int .i64 z]) ∧ l.length ≤ 9223372036854775807 :=
  slice_of (fun z => [AV.int .i64 z]) rfl g fun cs g => by
    obtain ⟨n, _, rfl, _, rfl⟩ := g
    exact ⟨n, rfl⟩
end
end Go.Proofs.Ab

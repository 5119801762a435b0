/- The own layer under the proofs of this seat, part N: what calls of the program come to on an abstract heap. No condition. -/
import Derived.Test.YtajecdfdnlfndaaGreatM
import Derived.Test.YtajecdfdnlfndaaGreatG
set_option linter.unusedSimpArgs false
set_option linter.unusedVariables false
namespace Go.Proofs.Ab
open Go Go.Proofs
abbrev bB := List Int × List Int
structure PG (n : Nat) (progs : List (List aF)) : Prop where
 n1 : 1 ≤ n
 n4 : n ≤ 4
 p1 : 1 ≤ progs.length
 p4 : progs.length ≤ 4
 good : lF progs
 ok : ∀ x ∈ progs,bA ((n : Int) - 1) (fun _ => false) x = true
 th : ∀ x ∈ progs,∀ s ∈ x,s.thing < n
theorem PG.of {things : Int} {l : List (List aF)} (h : dR things l = true) (hl : dF l = false) : ∃ n : Nat,things = n ∧ PG n l := by
 obtain ⟨n,rfl,h1,h2,h3,h4,h5⟩ := zY h hl
 exact ⟨n,rfl,h1.1,h1.2,h2.1,h2.2,h3,h4,h5⟩
structure RS (n : Nat) (progs : List (List aF)) (st : List Int) : Prop where
 ok : lE progs st
 one : oK n progs st
 hi : ∀ i,progs.length ≤ i → i < 4 → st.getD i 0 = 0
 ho : ∀ t,n ≤ t → t < 4 → st.getD (4 + t) 0 = -1
section
variable {n : Nat} {progs : List (List aF)}
theorem RS.start (g : PG n progs) : RS n progs aP ∧ iC progs aP = 0 := by
 have i0 : ∀ i,i < 4 → aP.getD i 0 = 0 := by decide
 have i1 : ∀ i,i < 4 → aP.getD (4 + i) 0 = -1 := by decide
 have := oK.start (progs := progs) g.p4 g.n4
 exact ⟨⟨tJ g.p4,this.1,fun i _ h => i0 i h,fun t _ h => i1 t h⟩,this.2⟩
theorem RS.next (g : PG n progs) {st s : List Int} {w : Nat} (r : RS n progs st) (hw : w < progs.length) (e : aY progs st w = some s) : RS n progs s ∧ iC progs s = iC progs st + 1 := by
 have h1 := r.one.next g.good r.ok hw g.p4 g.n4 g.th g.ok e
 have h2 := nQ g.good r.ok hw g.p4 e
 obtain ⟨x,t,d,_,ht,htn,_,_,_,_,es⟩ := lK g.good r.ok hw g.th e
 have p4 := g.p4
 have n4 := g.n4
 refine ⟨⟨h2,h1.1,fun i a b => ?_,fun i a b => ?_⟩,h1.2⟩
 · rw [es,bX (by omega),bX (by omega)]; exact r.hi i a b
 · rw [es,bX (by omega),bX (by omega)]; exact r.ho i a b
theorem RS.ext (g : PG n progs) {a b : List Int} (ra : RS n progs a) (rb : RS n progs b) (e : a.take progs.length = b.take progs.length) : a = b := by
 have la := ra.ok.len
 have lb := rb.ok.len
 have p4 := g.p4
 have n4 := g.n4
 have hd : ∀ i,i < progs.length → a.getD i 0 = b.getD i 0 := fun i hi => by
  rw [← dB hi,e,dB hi]
 have hh : ∀ w t,w < progs.length → iO progs a w t = iO progs b w t := fun w t hw => by rw [iO,iO,hd w hw]
 have hx : ∀ i,i < 8 → a.getD i 0 = b.getD i 0 := fun i hi => by
  by_cases h1 : i < progs.length
  · exact hd i h1
  · by_cases h2 : i < 4
    · rw [ra.hi i (by omega) h2,rb.hi i (by omega) h2]
    · obtain ⟨t,rfl⟩ : ∃ t,i = 4 + t := ⟨i - 4,by omega⟩
      by_cases h3 : t < n
      · rcases ra.one.rng t h3 with h4 | ⟨w,hw,h4⟩
        · rcases rb.one.rng t h3 with h5 | ⟨w,hw,h5⟩
          · rw [h4,h5]
          · have := (rb.one.own t h3 w hw).2 h5
            rw [← hh w t hw] at this
            have := (ra.one.own t h3 w hw).1 this
            rw [this,h5]
        · have := (ra.one.own t h3 w hw).2 h4
          rw [hh w t hw] at this
          rw [h4,(rb.one.own t h3 w hw).1 this]
      · rw [ra.ho t (by omega) (by omega),rb.ho t (by omega) (by omega)]
 apply List.ext_getElem (by omega)
 intro i h1 h2
 have := hx i (by omega)
 rwa [getD_at h1,getD_at h2] at this
theorem wL : ∀ {l : List Int},(∀ x ∈ l,x ≤ 6) → l.sum ≤ 6 * l.length
 | [],_ => by simp
 | x :: l,h => by
  have := wL (l := l) fun y hy => h y (by simp [hy])
  have := h x (by simp)
  simp only [List.sum_cons,List.length_cons]; omega
theorem RS.six (g : PG n progs) {a : List Int} (ra : RS n progs a) {i : Nat} (hi : i < progs.length) : 0 ≤ a.getD i 0 ∧ a.getD i 0 ≤ 6 := by
 have h1 := ra.ok.done i hi
 rw [getD_at hi] at h1
 have := (g.good _ (qG hi)).1
 omega
theorem RS.sum24 (g : PG n progs) {a : List Int} (ra : RS n progs a) : iC progs a ≤ 24 := by
 have p4 := g.p4
 have := wL (l := a.take progs.length) fun x hx => by
  obtain ⟨i,hi,rfl⟩ := List.getElem_of_mem hx
  rw [List.length_take] at hi
  have := ra.six g (i := i) (by omega)
  rw [← dB (p := progs.length) (by omega),getD_at (by rw [List.length_take]; omega)] at this
  exact this.2
 rw [List.length_take] at this
 have hl := ra.ok.len
 rw [iC]; omega
def kX : List Int → Nat
 | [] => 0
 | x :: l => x.toNat + 7 * kX l
theorem tS : ∀ {l : List Int},(∀ x ∈ l,0 ≤ x ∧ x ≤ 6) → kX l < 7 ^ l.length
 | [],_ => by simp [kX]
 | x :: l,h => by
  have := tS (l := l) fun y hy => h y (by simp [hy])
  have := h x (by simp)
  rw [kX,List.length_cons,Nat.pow_succ]; omega
theorem pO : ∀ {a b : List Int},a.length = b.length → (∀ x ∈ a,0 ≤ x ∧ x ≤ 6) → (∀ x ∈ b,0 ≤ x ∧ x ≤ 6) → kX a = kX b → a = b
 | [],[],_,_,_,_ => rfl
 | x :: a,y :: b,hl,ha,hb,e => by
  rw [kX,kX] at e
  have h1 := ha x (by simp)
  have h2 := hb y (by simp)
  have := pO (a := a) (b := b) (by simpa using hl) (fun z hz => ha z (by simp [hz])) (fun z hz => hb z (by simp [hz])) (by omega)
  rw [this]
  congr 1
  rw [this] at e
  omega
theorem fT : ∀ {a b : List Nat},a.Nodup → (∀ x ∈ a,x ∈ b) → a.length ≤ b.length
 | [],b,_,_ => by simp
 | x :: a,b,h,s => by
  have hx := s x (by simp)
  have := fT (a := a) (b := b.erase x) (List.nodup_cons.1 h).2 fun y hy => by
   have hne : y ≠ x := fun e => (List.nodup_cons.1 h).1 (e ▸ hy)
   exact (List.mem_erase_of_ne hne).2 (s y (by simp [hy]))
  rw [List.length_erase_of_mem hx] at this
  have := List.length_pos_of_mem hx
  simp only [List.length_cons]; omega
theorem oY {α β : Type} {f : α → β} : ∀ {l : List α},(∀ x ∈ l,∀ y ∈ l,f x = f y → x = y) → l.Nodup → (l.map f).Nodup
 | [],_,_ => by simp
 | a :: l,hf,hn => by
  obtain ⟨h1,h2⟩ := List.nodup_cons.1 hn
  rw [List.map_cons,List.nodup_cons]
  refine ⟨fun hm => ?_,oY (fun x hx y hy => hf x (by simp [hx]) y (by simp [hy])) h2⟩
  obtain ⟨b,hb,e⟩ := List.mem_map.1 hm
  rw [hf b (by simp [hb]) a (by simp) e] at hb
  exact h1 hb
theorem oA (g : PG n progs) {l : List (List Int)} (hn : l.Nodup) (hr : ∀ s ∈ l,RS n progs s) : l.length ≤ 2401 := by
 have p4 := g.p4
 have hen : ∀ s ∈ l,∀ x ∈ s.take progs.length,0 ≤ x ∧ x ≤ 6 := fun s hs x hx => by
  have r := hr s hs
  have hl := r.ok.len
  obtain ⟨i,hi,rfl⟩ := List.getElem_of_mem hx
  rw [List.length_take] at hi
  have := r.six g (i := i) (by omega)
  rwa [← dB (p := progs.length) (by omega),getD_at (by rw [List.length_take]; omega)] at this
 have hlen : ∀ s ∈ l,(s.take progs.length).length = progs.length := fun s hs => by
  have hl := (hr s hs).ok.len
  rw [List.length_take]; omega
 have := fT (a := l.map fun s => kX (s.take progs.length)) (b := List.range (7 ^ 4)) (oY (fun x hx y hy e =>
  (hr x hx).ext g (hr y hy) (pO (by rw [hlen x hx,hlen y hy]) (hen x hx) (hen y hy) e)) hn) fun x hx => by
  obtain ⟨s,hs,rfl⟩ := List.mem_map.1 hx
  have := tS (hen s hs)
  rw [hlen s hs] at this
  have := Nat.pow_le_pow_right (show 0 < 7 by omega) p4
  rw [List.mem_range]; omega
 rw [List.length_map,List.length_range] at this
 exact this
end
def cW (progs : List (List aF)) (w : bB) (x : List (List Int) × List bB) (who : Nat) : List (List Int) × List bB :=
 match aY progs w.1 who with
 | none => x
 | some s => if s ∈ x.1 then x else (x.1 ++ [s],x.2 ++ [(s,w.2 ++ [(who : Int)])])
def cO (progs : List (List aF)) (w : bB) (j : Nat) (x : List (List Int) × List bB) : List (List Int) × List bB := (List.range j).foldl (cW progs w) x
theorem aBg {progs : List (List aF)} {w : bB} {x : List (List Int) × List bB} : cO progs w 0 x = x := rfl
theorem iJ {progs : List (List aF)} {w : bB} {j : Nat} {x : List (List Int) × List bB} : cO progs w (j + 1) x = cW progs w (cO progs w j x) j := by
 rw [cO,List.range_succ,List.foldl_append]; rfl
def cT (progs : List (List aF)) (st : List Int) : Bool := ((List.range progs.length).all fun w => (aY progs st w).isNone) && (List.range progs.length).any fun w => (stepS progs st w).isSome
def bfs (progs : List (List aF)) : Nat → List bB → List (List Int) → Option bB
 | 0,_,_ => none
 | _ + 1,[],_ => none
 | k + 1,w :: q,seen => if cT progs w.1 then some w else bfs progs k (cO progs w progs.length (seen,q)).2 (cO progs w progs.length (seen,q)).1
def mu (q : List bB) : Nat := (q.map fun w => 5 ^ (25 - w.2.length)).sum
theorem mu_app {a b : List bB} : mu (a ++ b) = mu a + mu b := by simp [mu]
theorem mu_one {w : bB} : mu [w] = 5 ^ (25 - w.2.length) := by simp [mu]
theorem kO {w : bB} {q : List bB} : mu (w :: q) = 5 ^ (25 - w.2.length) + mu q := by simp [mu]
def goS (progs : List (List aF)) : List Int → List Int → Option (List Int)
 | st,[] => some st
 | st,w :: r => match aY progs st w.toNat with
  | none => none
  | some s => goS progs s r
theorem yK {progs : List (List aF)} : ∀ {a b st : List Int},goS progs st (a ++ b) = (goS progs st a).bind fun s => goS progs s b
 | [],b,st => rfl
 | x :: a,b,st => by
  rw [List.cons_append,goS,goS]
  cases aY progs st x.toNat with
  | none => rfl
  | some s => exact yK
def uN (n : Nat) (l : List Int) : Prop := ∀ x ∈ l,0 ≤ x ∧ x < (n : Int)
structure fX (n : Nat) (progs : List (List aF)) (w : bB) : Prop where
 rs : RS n progs w.1
 go : goS progs aP w.2 = some w.1
 val : uN progs.length w.2
 sum : iC progs w.1 = w.2.length
structure QI (n : Nat) (progs : List (List aF)) (q : List bB) (seen : List (List Int)) : Prop where
 way : ∀ w ∈ q,fX n progs w
 nd : seen.Nodup
 sn : ∀ s ∈ seen,RS n progs s
 qs : ∀ w ∈ q,w.1 ∈ seen
 qn : (q.map (·.1)).Nodup
section
variable {n : Nat} {progs : List (List aF)}
theorem fX.len24 (g : PG n progs) {w : bB} (a : fX n progs w) : w.2.length ≤ 24 := by
 have := a.rs.sum24 g
 rw [a.sum] at this; omega
theorem fX.start (g : PG n progs) : fX n progs (aP,[]) := ⟨(RS.start g).1,rfl,fun x hx => by simp at hx,(RS.start g).2⟩
theorem fX.next (g : PG n progs) {w : bB} {s : List Int} {who : Nat} (a : fX n progs w) (hw : who < progs.length) (e : aY progs w.1 who = some s) : fX n progs (s,w.2 ++ [(who : Int)]) := by
 obtain ⟨h1,h2⟩ := a.rs.next g hw e
 refine ⟨h1,?_,fun x hx => ?_,?_⟩
 · simp only
   rw [yK,a.go,Option.bind_some,goS,Int.toNat_natCast,e]; rfl
 · rcases List.mem_append.1 hx with hx | hx
   · exact a.val x hx
   · simp at hx; omega
 · simp only [List.length_append,List.length_singleton]; rw [h2,a.sum]; omega
theorem QI.start (g : PG n progs) : QI n progs [(aP,[])] [aP] := by
 refine ⟨fun w hw => ?_,by simp,fun s hs => ?_,fun w hw => ?_,by simp⟩
 · simp at hw; subst hw; exact fX.start g
 · simp at hs; subst hs; exact (RS.start g).1
 · simp at hw; subst hw; simp
theorem QI.tail {w : bB} {q : List bB} {seen : List (List Int)} (a : QI n progs (w :: q) seen) : QI n progs q seen :=
 ⟨fun x hx => a.way x (by simp [hx]),a.nd,a.sn,fun x hx => a.qs x (by simp [hx]),by have := a.qn; rw [List.map_cons,List.nodup_cons] at this; exact this.2⟩
theorem QI.push (g : PG n progs) {w : bB} {x : List (List Int) × List bB} {who : Nat} (a : QI n progs x.2 x.1) (hw : fX n progs w) (hl : who < progs.length) : QI n progs (cW progs w x who).2 (cW progs w x who).1 := by
 rw [cW]
 cases e : aY progs w.1 who with
 | none => exact a
 | some s =>
  simp only
  split
  · exact a
  · rename_i hs
    have h1 := hw.next g hl e
    refine ⟨fun y hy => ?_,?_,fun y hy => ?_,fun y hy => ?_,?_⟩
    · rcases List.mem_append.1 hy with hy | hy
      · exact a.way y hy
      · simp at hy; subst hy; exact h1
    · rw [List.nodup_append]
      exact ⟨a.nd,by simp,fun y hy z hz e2 => by simp at hz; subst hz; subst e2; exact hs hy⟩
    · rcases List.mem_append.1 hy with hy | hy
      · exact a.sn y hy
      · simp at hy; subst hy; exact h1.rs
    · rcases List.mem_append.1 hy with hy | hy
      · exact List.mem_append_left _ (a.qs y hy)
      · simp at hy; subst hy; simp
    · rw [List.map_append,List.nodup_append]
      refine ⟨a.qn,by simp,fun y hy z hz e => ?_⟩
      simp at hz
      obtain ⟨v,hv,rfl⟩ := List.mem_map.1 hy
      rw [hz] at e
      have := a.qs v hv
      rw [e] at this
      exact hs this
theorem QI.pushes (g : PG n progs) {w : bB} {x : List (List Int) × List bB} (a : QI n progs x.2 x.1) (hw : fX n progs w) : ∀ {j : Nat},j ≤ progs.length → QI n progs (cO progs w j x).2 (cO progs w j x).1
 | 0,_ => a
 | j + 1,h => by
  rw [iJ]
  exact (QI.pushes g a hw (j := j) (by omega)).push g hw (by omega)
theorem QI.q_len (g : PG n progs) {q : List bB} {seen : List (List Int)} (a : QI n progs q seen) : q.length ≤ 2401 := by
 have := oA g (l := q.map (·.1)) a.qn fun s hs => by
  obtain ⟨w,hw,rfl⟩ := List.mem_map.1 hs
  exact (a.way w hw).rs
 simpa using this
theorem QI.s_len (g : PG n progs) {q : List bB} {seen : List (List Int)} (a : QI n progs q seen) : seen.length ≤ 2401 := oA g a.nd a.sn
theorem aDv {w : bB} {x : List (List Int) × List bB} {who : Nat} (h24 : w.2.length ≤ 24) : mu (cW progs w x who).2 ≤ mu x.2 + 5 ^ (24 - w.2.length) := by
 rw [cW]
 cases e : aY progs w.1 who with
 | none => exact Nat.le_add_right _ _
 | some s =>
  simp only
  split
  · exact Nat.le_add_right _ _
  · rw [mu_app,mu_one,List.length_append,List.length_singleton,show 25 - (w.2.length + 1) = 24 - w.2.length by omega]; exact Nat.le_refl _
theorem oZ {w : bB} {x : List (List Int) × List bB} (h24 : w.2.length ≤ 24) : ∀ {j : Nat},mu (cO progs w j x).2 ≤ mu x.2 + j * 5 ^ (24 - w.2.length)
 | 0 => by rw [aBg]; omega
 | j + 1 => by
  rw [iJ,Nat.succ_mul]
  have h1 := aDv (progs := progs) (w := w) (x := cO progs w j x) (who := j) h24
  have h2 := oZ (x := x) h24 (j := j)
  omega
theorem mR (g : PG n progs) {w : bB} {q : List bB} {seen : List (List Int)} (h24 : w.2.length ≤ 24) : mu (cO progs w progs.length (seen,q)).2 < mu (w :: q) := by
 have h1 := oZ (progs := progs) (x := (seen,q)) h24 (j := progs.length)
 have p4 := g.p4
 rw [kO,show 25 - w.2.length = (24 - w.2.length) + 1 by omega,Nat.pow_succ]
 have h2 : 0 < 5 ^ (24 - w.2.length) := Nat.pow_pos (by omega)
 have h3 : progs.length * 5 ^ (24 - w.2.length) ≤ 4 * 5 ^ (24 - w.2.length) := Nat.mul_le_mul_right _ p4
 simp only at h1
 omega
end
def kU (st : List Int) (s : aF) : Nat := (st.getD (4 + s.thing.toNat) 0).toNat
def eG (progs : List (List aF)) (st : List Int) : Nat → Nat → List Nat → List Nat
 | 0,_,out => out
 | k + 1,who,out => if who ∈ out then out ++ [who] else match stepS progs st who with
  | none => out ++ [who]
  | some s => eG progs st k (kU st s) (out ++ [who])
section
variable {n : Nat} {progs : List (List aF)} {st : List Int}
theorem fH : cT progs st = true ↔ (∀ w,w < progs.length → aY progs st w = none) ∧ ∃ w,w < progs.length ∧ (stepS progs st w).isSome = true := by
 rw [cT,Bool.and_eq_true,List.all_eq_true,List.any_eq_true]
 constructor
 · rintro ⟨h1,w,h2,h3⟩
   exact ⟨fun w hw => by simpa using h1 w (List.mem_range.2 hw),w,List.mem_range.1 h2,h3⟩
 · rintro ⟨h1,w,h2,h3⟩
   exact ⟨fun w hw => by simpa using h1 w (List.mem_range.1 hw),w,List.mem_range.2 h2,h3⟩
theorem nF (g : PG n progs) (r : RS n progs st) (hs : ∀ w,w < progs.length → aY progs st w = none) {w : Nat} {s : aF} (hw : w < progs.length) (e : stepS progs st w = some s) :
 s.kind = 1 ∧ (∃ t : Nat,s.thing = t ∧ t < n) ∧ kU st s < progs.length ∧ st.getD (4 + s.thing.toNat) 0 = (kU st s : Int) := by
 have h1 := hs w hw
 rw [aY,e] at h1
 simp only at h1
 split at h1
 · rename_i hc
   have hsm : s ∈ progs[w] := by rw [stepS,getD_at hw] at e; exact List.mem_of_getElem? e
   have h2 := ((g.good _ (qG hw)).2 s hsm).1
   have h3 := g.th _ (qG hw) s hsm
   obtain ⟨t,ht⟩ : ∃ t : Nat,s.thing = t := ⟨s.thing.toNat,by omega⟩
   have ht2 : s.thing.toNat = t := by omega
   rw [ht2] at hc
   rcases r.one.rng t (by omega) with h4 | ⟨u,hu,h4⟩
   · exact absurd h4 hc.2
   · refine ⟨hc.1,⟨t,ht,by omega⟩,?_,?_⟩
     · rw [kU,ht2,h4]; simpa using hu
     · rw [kU,ht2,h4]; rfl
 · cases h1
def linkS (progs : List (List aF)) (st : List Int) (a b : Nat) : Prop := ∃ s,stepS progs st a = some s ∧ kU st s = b
structure ChI (progs : List (List aF)) (st : List Int) (l : List Nat) : Prop where
 lt : ∀ x ∈ l,x < progs.length
 ln : ∀ i a b,l[i]? = some a → l[i + 1]? = some b → linkS progs st a b
theorem ChI.more {out : List Nat} {who x : Nat} (a : ChI progs st (out ++ [who])) (hx : x < progs.length) (hl : linkS progs st who x) : ChI progs st (out ++ [who] ++ [x]) := by
 refine ⟨fun y hy => ?_,fun i u v h1 h2 => ?_⟩
 · rcases List.mem_append.1 hy with hy | hy
   · exact a.lt y hy
   · simp at hy; omega
 · have hi := (List.getElem?_eq_some_iff.1 h2).1
   simp only [List.length_append,List.length_singleton] at hi
   by_cases q : i + 1 < (out ++ [who]).length
   · rw [qH (by omega)] at h1
     rw [qH q] at h2
     exact a.ln i u v h1 h2
   · simp only [List.length_append,List.length_singleton] at q
     obtain rfl : i = out.length := by omega
     rw [qH (by simp),qI (Nat.le_refl _),Nat.sub_self] at h1
     rw [qI (by simp)] at h2
     simp at h1 h2
     rw [← h1,← h2]; exact hl
end
end Go.Proofs.Ab
namespace Go.Proofs.Ab
open Go Go.Proofs
variable {w0 : World} {h : aA}
attribute [local irreducible] ACall bC cM bG dO rvC lp rg dr ex un rv
abbrev k8 : Bool × List Bool := (true,[true,true,true,true,true,true,true,true])
theorem yP : ∀ (a b : List Int),a.length = b.length → bU (List.replicate a.length true) (aK a) (aK b) = some (a == b)
 | [],[],_ => rfl
 | x :: xs,y :: ys,e => by
  have ih := yP xs ys (by simpa using e)
  simp only [aK,List.map_cons,List.length_cons,List.replicate_succ,bU,ceq] at ih ⊢
  rw [ih]
  by_cases h : x = y
  · subst h; simp
  · have h2 : (x == y) = false := beq_eq_false_iff_ne.2 h
    have h3 : (x :: xs == y :: ys) = false := by rw [List.cons_beq_cons,h2]; rfl
    rw [h2,h3]; simp
theorem aCs {a b : List Int} (ha : a.length = 8) (hb : b.length = 8) : keq k8 (.agg (aK a)) (.agg (aK b)) = some (decide (a = b)) := by
 have := yP a b (by omega)
 rw [ha] at this
 simp only [keq,k8,if_true]
 refine Eq.trans this ?_
 congr 1
 by_cases e : a = b <;> simp [e]
def fR (M : List (List Int)) : List (AV × AV) := M.map fun m => (.agg (aK m),.bool true)
theorem lO {K : List Int} (hK : K.length = 8) : ∀ (M : List (List Int)) (i : Nat),(∀ m ∈ M,m.length = 8) →
 (K ∉ M ∧ dH k8 (.agg (aK K)) (fR M) i = some none) ∨ K ∈ M ∧ ∃ j : Nat,dH k8 (.agg (aK K)) (fR M) i = some (some (j,.bool true))
 | [],i,_ => .inl ⟨by simp,rfl⟩
 | K' :: M,i,hM => by
  have hK' := hM _ List.mem_cons_self
  have ih := lO hK M (i + 1) fun m hm => hM m (List.mem_cons_of_mem _ hm)
  simp only [fR,List.map_cons,dH] at ih ⊢
  rw [aCs hK hK']
  by_cases e : K = K'
  · subst e
    exact .inr ⟨by simp,i,by simp⟩
  · simp only [e,decide_false]
    rcases ih with ⟨h0,h1⟩ | ⟨h0,j,h1⟩
    · exact .inl ⟨by simp [e,h0],h1⟩
    · exact .inr ⟨by simp [h0],j,h1⟩
theorem aAc {H : aA} {sb : Nat} {M : List (List Int)} {K : List Int} (hd : H[sb]? = some (some (.map (fR M)))) (hK : K.length = 8) (hM : ∀ m ∈ M,m.length = 8) :
 lZ H k8 (.bool false) false (.map sb) (.agg (aK K)) = some (.bool (decide (K ∈ M))) := by
 simp only [lZ,hd]
 rw [if_neg (by rw [aCs hK hK]; simp)]
 rcases lO hK M 0 hM with ⟨h0,h1⟩ | ⟨h0,j,h1⟩
 · rw [h1]; simp [h0]
 · rw [h1]; simp [h0]
theorem sK {H : aA} {sb : Nat} {M : List (List Int)} {K : List Int} (hd : H[sb]? = some (some (.map (fR M)))) (hK : K.length = 8) (hM : ∀ m ∈ M,m.length = 8) (hn : K ∉ M) :
 jI H k8 (.map sb) (.agg (aK K)) (.bool true) = some (.undef,H.set sb (some (.map (fR (M ++ [K]))))) := by
 simp only [jI,hd]
 rw [if_neg (by rw [aCs hK hK]; simp)]
 rcases lO hK M 0 hM with ⟨h0,h1⟩ | ⟨h0,_⟩
 · rw [h1]; simp [fR]
 · exact absurd h0 hn
theorem aE.setN {B H : aA} {i : Nat} {x : Option Blk} (s : aE B H) (f : ∀ b,B[i]? ≠ some (some b)) : aE B (H.set i x) := ⟨by simpa using s.1,fun j b e => by
 by_cases q : i = j
 · subst q; exact absurd e (f b)
 · rw [qB q]; exact s.2 j b e⟩
structure QV (B H : aA) (qb : Nat) (qv : AV) (rows : List (List AV)) : Prop where
 sub : aE B H
 box : H[qb]? = some (some (.row [qv]))
 nb : ∀ b,B[qb]? ≠ some (some b)
 nine : ∀ r ∈ rows,r.length = 9
 val : (qv = .nilS ∧ rows = []) ∨ ∃ io off c,qv = .sl (.own io off) rows.length 9 false ∧ io ≠ qb ∧ H[io]? = some (some (.row c)) ∧ c.drop off = rows.flatten ∧ off ≤ c.length ∧ ∀ b,B[io]? ≠ some (some b)
section
variable {B H : aA} {qb : Nat} {qv : AV} {rows : List (List AV)}
theorem QV.app {L : aA} (a : QV B H qb qv rows) : QV B (H ++ L) qb qv rows := by
 refine ⟨a.sub.app,aC a.box,a.nb,a.nine,?_⟩
 rcases a.val with h1 | ⟨io,off,c,h1,h2,h3,h4⟩
 · exact .inl h1
 · exact .inr ⟨io,off,c,h1,h2,aC h3,h4⟩
theorem QV.len (a : QV B H qb qv rows) : gA qv = some (.int .i64 rows.length) := by
 rcases a.val with ⟨rfl,rfl⟩ | ⟨io,off,c,rfl,_⟩ <;> rfl
theorem QV.base {C : aA} (a : QV B H qb qv rows) (s : aE C H) (hq : ∀ b,C[qb]? ≠ some (some b)) (hi : ∀ io off n,qv = .sl (.own io off) n 9 false → ∀ b,C[io]? ≠ some (some b)) : QV C H qb qv rows := by
 refine ⟨s,a.box,hq,a.nine,?_⟩
 rcases a.val with h1 | ⟨io,off,c,h1,h2,h3,h4,h5,h6⟩
 · exact .inl h1
 · exact .inr ⟨io,off,c,h1,h2,h3,h4,h5,hi _ _ _ h1⟩
theorem yM : ∀ {rows : List (List AV)},(∀ r ∈ rows,r.length = 9) → rows.flatten.length = rows.length * 9
 | [],_ => rfl
 | r :: l,h => by
  have := yM (rows := l) fun x hx => h x (by simp [hx])
  have := h r (by simp)
  simp only [List.flatten_cons,List.length_append,List.length_cons,Nat.succ_mul]; omega
theorem QV.set {i : Nat} {x : Option Blk} (a : QV B H qb qv rows) (hB : ∀ b,B[i]? ≠ some (some b)) (hq : qb ≠ i) (hi : ∀ io off n,qv = .sl (.own io off) n 9 false → io ≠ i) : QV B (H.set i x) qb qv rows := by
 refine ⟨a.sub.setN hB,by rw [qB (fun e => hq e.symm)]; exact a.box,a.nb,a.nine,?_⟩
 rcases a.val with h1 | ⟨io,off,c,h1,h2,h3,h4⟩
 · exact .inl h1
 · exact .inr ⟨io,off,c,h1,h2,by rw [qB (fun e => hi _ _ _ h1 e.symm)]; exact h3,h4⟩
theorem put_c {x : List AV} (a : QV B H qb qv rows) (hx : x.length = 9) (ho : x.all one = true) (hn : rows.length ≤ 5000) :
 ACall Tryz.prog w0 86 [.ptr (.own qb 0),.agg x] H fun v H' => v = .tup [] ∧ ∃ qv',QV B H' qb qv' (rows ++ [x]) ∧ ∀ io off n,qv' = .sl (.own io off) n 9 false → H.length ≤ io := by
 refine bH aW xE aBz aBy (qE rfl) fun hb ha => bF ?_
 have e1 : ∀ L,(H ++ L)[qb]? = some (some (.row [qv])) := fun L => aC a.box
 have t9 : x.take 9 = x := List.take_of_length_le (by omega)
 have hqH := aL a.box
 have hr1 : rdn w0 (H ++ [some (Blk.row x),some (Blk.row x)]) (.own (H.length + 1) 0) (1 * 9) = some x := by
  simp only [rdn]
  rw [qI (by omega),show H.length + 1 - H.length = 1 by omega]
  simp [hx,t9]
 have nine : ∀ r ∈ rows ++ [x],r.length = 9 := fun r hr => by
  rcases List.mem_append.1 hr with hr | hr
  · exact a.nine r hr
  · simp at hr; subst hr; exact hx
 have fin : ∀ (K : aA) (old : List AV) (m : Nat),H.length ≤ m → aE B K → K[qb]? = some (some (.row [qv])) → K[m]? = some (some (.row (rows.flatten ++ x))) → m ≠ qb →
  ∃ qv',QV B (K.set qb (some (.row [.sl (.own m 0) (rows.length + 1) 9 false]))) qb qv' (rows ++ [x]) ∧ ∀ io off n,qv' = .sl (.own io off) n 9 false → H.length ≤ io := fun K old m hm hs hk hkm hmq => by
  refine ⟨.sl (.own m 0) (rows.length + 1) 9 false,⟨hs.setN a.nb,by rw [qF (aL hk)],a.nb,nine,.inr ⟨m,0,_,by simp,hmq,by rw [qB (fun e => hmq e.symm)]; exact hkm,by simp,Nat.zero_le _,fun b e => ?_⟩⟩,fun io off n e => ?_⟩
  · have := aL e; have := a.sub.1; omega
  · cases e; exact hm
 rcases a.val with ⟨rfl,rfl⟩ | ⟨io,off,c,rfl,i1,i2,i3,i4,i5⟩
 · have hap : cJ w0 (H ++ [some (Blk.row x),some (Blk.row x)]) 9 88 .nilS (.sl (.own (H.length + 1) 0) 1 9 true) = some (.sl (.own (H.length + 2) 0) 1 9 false,H ++ [some (Blk.row x),some (Blk.row x),some (Blk.row x)]) := by
    simp only [cJ,eU,gC,if_true,hr1,Option.map_some,Option.bind_some]
    rw [if_neg (by omega),if_pos ⟨by omega,ho⟩]
    simp [fE]
   simp only [go_sem,mf86,ho,hx,t9,e1,List.append_nil,hap]
   exact fin _ [] (H.length + 2) (by omega) a.sub.app (e1 _) (by rw [qI (by omega),show H.length + 2 - H.length = 2 by omega]; rfl) (by omega)
 · have hlen9 : c.length = off + rows.length * 9 := by
    have := congrArg List.length i3
    rw [List.length_drop,yM a.nine] at this; omega
   have hioH := aL i2
   have hr2 : rdn w0 (H ++ [some (Blk.row x),some (Blk.row x)]) (.own io off) (rows.length * 9) = some rows.flatten := by
    simp only [rdn]
    rw [aC i2]
    simp only [i3]
    rw [if_pos (by omega),List.take_of_length_le (by rw [yM a.nine]; exact Nat.le_refl _)]
   have hap : cJ w0 (H ++ [some (Blk.row x),some (Blk.row x)]) 9 88 (.sl (.own io off) rows.length 9 false) (.sl (.own (H.length + 1) 0) 1 9 true) = some (.sl (.own (H.length + 2) 0) (rows.length + 1) 9 false,(H ++ [some (Blk.row x),some (Blk.row x)]).set io none ++ [some (.row (rows.flatten ++ x))]) := by
    simp only [cJ,eU,gC,if_true,hr1,Option.map_some,Option.bind_some]
    rw [if_neg (by omega),if_pos ⟨trivial,Nat.le_trans (Nat.mul_le_mul (show rows.length + 1 ≤ 5001 by omega) (Nat.le_refl 89)) (by decide),ho⟩]
    simp only [Bool.false_eq_true,if_false,hr2,Option.bind_some]
    simp
   obtain ⟨K,hK⟩ : ∃ K,K = (H ++ [some (Blk.row x),some (Blk.row x)]).set io none ++ [some (.row (rows.flatten ++ x))] := ⟨_,rfl⟩
   have k1 : K[qb]? = some (some (.row [.sl (.own io off) rows.length 9 false])) := by
    rw [hK]; exact aC (by rw [qB i1]; exact e1 _)
   rw [← hK] at hap
   simp only [go_sem,mf86,ho,hx,t9,e1,List.append_nil,hap,k1]
   exact fin K [] (H.length + 2) (by omega) (hK ▸ (a.sub.app.setN i5).app) k1 (by rw [hK,qI (by simp)]; simp) (by omega)
def aAK : List AV := aK [0,0,0,0,0,0,0,0] ++ [.nilS]
theorem uO (a : QV B H qb qv rows) (ho : ∀ r ∈ rows,r.all one = true) :
 ACall Tryz.prog w0 87 [.ptr (.own qb 0)] H fun v H' => match rows with
  | [] => v = .tup [.agg aAK,.bool false] ∧ QV B H' qb qv []
  | x :: r => v = .tup [.agg x,.bool true] ∧ ∃ qv',QV B H' qb qv' r ∧ ∀ io off n,qv' = .sl (.own io off) n 9 false → ∃ o n,qv = .sl (.own io o) n 9 false := by
 refine bH aW xD aBx aBw (qE rfl) fun hb ha => bF ?_
 have e1 : ∀ L,(H ++ L)[qb]? = some (some (.row [qv])) := fun L => aC a.box
 have hlen := a.len
 match rows,a,ho,hlen with
 | [],a,ho,hlen =>
  simp only [go_sem,mf87,e1,hlen]
  exact ⟨fun _ => ⟨rfl,a.app⟩,fun e => absurd rfl e⟩
 | x :: r,a,ho,hlen =>
  rcases a.val with ⟨_,h1⟩ | ⟨io,off,c,rfl,i1,i2,i3,i4,i5⟩
  · cases h1
  have hx := a.nine x (by simp)
  have hxo := ho x (by simp)
  have t9 : x.take 9 = x := List.take_of_length_le (by omega)
  have hc : c.length = off + (r.length + 1) * 9 := by
   have := congrArg List.length i3
   rw [List.length_drop,yM a.nine] at this; simp only [List.length_cons] at this; omega
  have r1 : ∀ L,rdn w0 (H ++ L) (.own io off) 9 = some x := fun L => by
   simp only [rdn]
   rw [aC i2]
   simp only [i3]
   rw [if_pos (by omega),List.flatten_cons,List.take_append_of_le_length (by omega),t9]
  have q1 : ¬ ((x :: r).length : Int) = 0 := by simp only [List.length_cons]; omega
  have q2 : 1 ≤ (x :: r).length ∧ (x :: r).length ≤ (x :: r).length := ⟨by simp,Nat.le_refl _⟩
  simp only [go_sem,mf87,e1,hlen,q1,q2,r1,hx,hxo,t9,List.append_nil,Bool.false_and,Nat.add_sub_cancel]
  refine ⟨fun e => absurd e (by omega),fun _ => ⟨by omega,Nat.le_refl _,?_⟩⟩
  obtain ⟨Z,hZ⟩ : ∃ Z : List AV,Z = [AV.int IntKind.i64 0,AV.int IntKind.i64 0,AV.int IntKind.i64 0,AV.int IntKind.i64 0,AV.int IntKind.i64 0,AV.int IntKind.i64 0,AV.int IntKind.i64 0,AV.int IntKind.i64 0,AV.nilS] := ⟨_,rfl⟩
  rw [← hZ]
  have zl : Z.length = 9 := by rw [hZ]; rfl
  obtain ⟨K,hK⟩ : ∃ K,K = (H ++ [some (Blk.row Z),some (Blk.row x)]).set qb (some (Blk.row [AV.sl (.own io (off + 9)) r.length 9 false])) := ⟨_,rfl⟩
  rw [← hK]
  have hqH := aL a.box
  have hioH := aL i2
  have k0 : K[H.length]? = some (some (.row Z)) := by rw [hK,qB (by omega),qI (Nat.le_refl _),Nat.sub_self]; rfl
  have k1 : K[H.length + 1]? = some (some (.row x)) := by rw [hK,qB (by omega),qI (by omega),show H.length + 1 - H.length = 1 by omega]; rfl
  have kq : K[qb]? = some (some (.row [AV.sl (.own io (off + 9)) r.length 9 false])) := by rw [hK,qF (by simp; omega)]
  have ki : K[io]? = some (some (.row c)) := by rw [hK,qB (fun e => i1 e.symm)]; exact aC i2
  have ks : aE B K := hK ▸ a.sub.app.setN a.nb
  have d9 : Z.drop 9 = [] := List.drop_of_length_le (by omega)
  simp only [go_sem,k0,k1,hx,hxo,t9,zl,d9,List.append_nil]
  have k2 : (K.set H.length (some (.row x)))[H.length]? = some (some (.row x)) := by rw [qF (aL k0)]
  simp only [go_sem,k2,hx,hxo,t9]
  have hBH : ∀ b,B[H.length]? ≠ some (some b) := fun b e => by have := aL e; have := a.sub.1; omega
  refine ⟨.sl (.own io (off + 9)) r.length 9 false,⟨ks.setN hBH,by rw [qB (by omega)]; exact kq,a.nb,fun y hy => a.nine y (by simp [hy]),.inr ⟨io,off + 9,c,rfl,i1,by rw [qB (by omega)]; exact ki,?_,by omega,i5⟩⟩,fun io' off' n' e => ?_⟩
  · rw [← List.drop_drop,i3,List.flatten_cons,List.drop_append_of_le_length (by omega),List.drop_of_length_le (by omega),List.nil_append]
  · cases e; exact ⟨_,_,rfl⟩
end
theorem tT : bG Tryz.prog w0 90 [.nilS] h .nilS h := by
 refine aX aW qV vF vE (qE rfl) (by simp [AV.bdd,AV.bdds]) fun hb ha => bF ?_
 simp only [go_sem,mf90]
theorem aCz {v : AV} {l : List Int} (x : Int) (hv : SlI w0 h v l) (hn : l.length < 1000000) : bG Tryz.prog w0 145 [v,.int .i64 x] h (.int .i64 (match l.findIdx? (fun y => decide (x = y)) with | some j => (j : Int) | none => -1)) h := by
 refine aX aW sY xS xR (qE rfl) (by simp [AV.bdd,AV.bdds]) fun hb ha => bF ?_
 have hlen := (SlI.use hv).1
 simp only [go_sem,mf145,hlen]
 refine gU (fun j => [(0,v),(1,.int .i64 x),(7,.int .i64 l.length),(8,.int .i64 j)]) (fun j => ∀ y,l[j]? = some y → x ≠ y) l.length rfl (fun j hj hall ih => ?_) (fun hall => ?_)
 · refine aT aW uF [0,1,7,8] L145_0.eq_1 ?_
   have e1 : (j : Int) < l.length := by omega
   obtain ⟨p,i1,r1,r1'⟩ := hv.at_ hj
   by_cases q : x = l[j]
   · have hf : l.findIdx? (fun y => decide (x = y)) = some j := by
      rw [List.findIdx?_eq_some_iff_getElem]
      exact ⟨hj,by simp [q],fun i hi => by simpa using hall i hi _ (qA (by omega))⟩
     simp only [go_sem,e1,i1,r1,r1',← q]
     rw [hf]
   · simp only [go_sem,e1,i1,r1,r1',q]
     exact ⟨(by unfold I64; omega),ih fun y hy => by rw [qA hj] at hy; cases hy; exact q⟩
 · refine aT aW uF [0,1,7,8] L145_0.eq_1 ?_
   have e1 : ¬ (l.length : Int) < l.length := by omega
   have hf : l.findIdx? (fun y => decide (x = y)) = none := by
    rw [List.findIdx?_eq_none_iff]
    intro y hy
    obtain ⟨i,hi,rfl⟩ := List.getElem_of_mem hy
    simpa using hall i hi _ (qA hi)
   rw [hf]
   simp only [go_sem,e1]
theorem tR {v : AV} {l : List Int} (x : Int) (hv : SlI w0 h v l) (hn : l.length < 1000000) : bG Tryz.prog w0 130 [v,.int .i64 x] h (.bool (decide (x ∈ l))) h := by
 refine aX aW tA xW xV (qE rfl) (by simp [AV.bdd,AV.bdds]) fun hb ha => bF ?_
 simp only [go_sem,mf130]
 refine aI (aCz x (Sl.app hv) hn).v ?_
 cases hf : l.findIdx? (fun y => decide (x = y)) with
 | none =>
  rw [List.findIdx?_eq_none_iff] at hf
  have : x ∉ l := fun hm => by simpa using hf x hm
  simp only [go_sem]
  simp [this]
 | some j =>
  rw [List.findIdx?_eq_some_iff_getElem] at hf
  obtain ⟨hj,h1,_⟩ := hf
  have : x ∈ l := by
   simp only [decide_eq_true_eq] at h1
   rw [h1]; exact qG hj
  have e : (j : Int) ≥ 0 := by omega
  simp only [go_sem,e]
  simp [this]
def nis (l : List Nat) : List Int := l.map fun i : Nat => (i : Int)
theorem fD {l : List Nat} : (nis l).length = l.length := by simp [nis]
theorem sS {l : List Nat} {x : Nat} : nis (l ++ [x]) = nis l ++ [(x : Int)] := by simp [nis]
theorem mP {l : List Nat} {x : Nat} : ((x : Int) ∈ nis l) ↔ x ∈ l := by
 simp only [nis,List.mem_map]
 constructor
 · rintro ⟨y,hy,e⟩
   obtain rfl : y = x := by omega
   exact hy
 · exact fun h => ⟨x,h,rfl⟩
theorem aFw {v : AV} {progs : List (List aF)} {st : List Int} {n who : Nat} (hv : PS w0 h v progs) (g : PG n progs) (r : RS n progs st) (hs : ∀ w,w < progs.length → aY progs st w = none) (hw : who < progs.length) :
 ACall Tryz.prog w0 91 [.agg (aK st),v,.int .i64 who] h fun y H => aE h H ∧ SlI w0 H y (nis (eG progs st 5 who [])) := by
 obtain ⟨C,hC⟩ : ∃ C,C = eG progs st 5 who [] := ⟨_,rfl⟩
 rw [← hC]
 refine bH aW xA aBr aBq (qE rfl) fun hb ha => bF ?_
 have hl8 := r.ok.len
 have c1 : (aK st).length = 8 := by rw [cF,hl8]
 have t8 : (aK st).take 8 = aK st := List.take_of_length_le (by omega)
 have p4 := g.p4
 have n4 := g.n4
 simp only [go_sem,mf91,bQ,c1]
 obtain ⟨X,hX⟩ : ∃ X,X = h ++ [some (Blk.row (aK st))] := ⟨_,rfl⟩
 have hXs : aE h X := hX ▸ aE.refl.app
 have hXx : X[h.length]? = some (some (.row (aK st))) := by rw [hX,qI (Nat.le_refl _),Nat.sub_self]; rfl
 refine cU (S := Nat × Nat × List Nat × aA × AV) (F := fun s => [(1,v),(2,.int .i64 s.2.1),(3,.ptr (.own h.length 0)),(7,s.2.2.2.2)]) (H := fun s => s.2.2.2.1) (meas := fun s => s.1)
  (Inv := fun s => C = eG progs st s.1 s.2.1 s.2.2.1 ∧ s.2.1 < progs.length ∧ s.2.2.1.Nodup ∧ (∀ x ∈ s.2.2.1,x < progs.length) ∧ s.2.2.1.length + s.1 = 5 ∧ Gro X s.2.2.2.1 1 s.2.2.1.length s.2.2.2.2 (aK (nis s.2.2.1)))
  (5,who,[],X,.nilS) ⟨hC,hw,by simp,fun x hx => by simp at hx,rfl,by simpa [aK,nis] using Gro.nil aE.refl⟩ rfl (by rw [hX]) ?_
 rintro ⟨k,wh,out,H,ov⟩ ⟨hc,hwl,hnd,hlt,hk,hG⟩ ih
 simp only at hc hwl hnd hlt hk hG ih ⊢
 have hlen := fT (a := out) (b := List.range progs.length) hnd fun x hx => List.mem_range.2 (hlt x hx)
 rw [List.length_range] at hlen
 obtain ⟨k,rfl⟩ : ∃ j,k = j + 1 := ⟨k - 1,by omega⟩
 rw [eG] at hc
 refine aT aW aFD [1,2,3,7] L91_0.eq_1 ?_
 have hsub := hG.sub
 have hx1 := hsub.2 _ _ hXx
 have hin : SlI w0 H ov (nis out) := hG.sli fD.symm
 simp only [go_sem]
 refine aI (tR wh hin (by rw [fD]; omega)).v ?_
 simp only [go_sem]
 obtain ⟨Y,eY⟩ : ∃ Y,Y = H ++ [some (Blk.row [.int .i64 (wh : Int)])] := ⟨_,rfl⟩
 have gY : Gro X Y 1 out.length ov (aK (nis out)) := eY ▸ hG.app
 have hkk : Y[H.length]? = some (some (.row [.int .i64 (wh : Int)])) := by rw [eY,qI (Nat.le_refl _),Nat.sub_self]; rfl
 obtain ⟨G2,e5,e6⟩ := gY.more (w0 := w0) (b := 8) (f := true) hkk rfl rfl (by omega) (by omega)
 rw [← eY,e5]
 have e7 : Gro X G2 1 (out.length + 1) (.sl (.own Y.length 0) (out.length + 1) 1 false) (aK (nis (out ++ [wh]))) := by
  rw [sS]; simpa [aK] using e6
 have g2x := e7.sub.2 _ _ hXx
 have g2s : aE h G2 := hXs.trans e7.sub
 simp only [go_sem,g2x,c1,t8]
 refine aI (pV (hv.sub g2s) r.ok hwl p4).v ?_
 by_cases hm : wh ∈ out
 · rw [if_pos hm] at hc
   have hmd : decide ((wh : Int) ∈ nis out) = true := decide_eq_true (mP.2 hm)
   have fin : ∀ L,SlI w0 (G2 ++ L) (.sl (.own Y.length 0) (out.length + 1) 1 false) (nis C) := fun L => by
    rw [hc]; exact Sl.app (e7.sli (by rw [fD]; simp))
   cases hst : stepS progs st wh with
   | none =>
    simp only [go_sem,fA,hmd]
    exact ⟨g2s.app,fin _⟩
   | some s =>
    simp only [go_sem,fA,aF.c,hmd]
    exact ⟨g2s.app,fin _⟩
 · rw [if_neg hm] at hc
   have hmd : decide ((wh : Int) ∈ nis out) = false := decide_eq_false (fun h => hm (mP.1 h))
   cases hst : stepS progs st wh with
   | none =>
    rw [hst] at hc
    simp only at hc
    simp only [go_sem,fA,hmd]
    refine ⟨g2s.app,?_⟩
    rw [hc]; exact Sl.app (e7.sli (by rw [fD]; simp))
   | some s =>
    rw [hst] at hc
    simp only at hc
    obtain ⟨k1,⟨t,ht,htn⟩,h3,h4⟩ := nF g r hs hwl hst
    have ht2 : s.thing.toNat = t := by omega
    rw [ht2] at h4
    have c3 := kS (l := st) (i := 4 + t) (by omega)
    rw [h4] at c3
    have ht4 : t < 4 := by omega
    simp only [go_sem,fA,aF.c,hmd,g2x,xL g2x,ht,gT,ht4,Nat.mul_one,c3]
    refine ih (k,kU st s,out ++ [wh],G2 ++ [some (Blk.row [.int .i64 s.kind,.int .i64 (t : Int)])],_) ⟨hc,h3,?_,fun x hx => ?_,by simp; omega,by simpa using e7.app⟩ (by simp only; omega)
    · rw [List.nodup_append]
      exact ⟨hnd,by simp,fun y hy z hz e2 => by simp at hz; subst hz; subst e2; exact hm hy⟩
    · rcases List.mem_append.1 hx with hx | hx
      · exact hlt x hx
      · simp at hx; omega
def WR (w0 : World) (B : aA) (w : bB) (c : List AV) : Prop := ∃ sv,c = aK w.1 ++ [sv] ∧ w.1.length = 8 ∧ SlI w0 B sv w.2 ∧ (w.2 = [] → sv = .nilS)
def cZ (w0 : World) (B : aA) : List bB → List (List AV) → Prop
 | [],[] => True
 | w :: q,c :: r => WR w0 B w c ∧ cZ w0 B q r
 | _,_ => False
theorem SlI.one {B : aA} {v : AV} {l : List Int} (s : SlI w0 B v l) : one v = true := (Sl.one s).1
theorem WR.sub {B C : aA} {w : bB} {c : List AV} (a : WR w0 B w c) (s : aE B C) : WR w0 C w c := by
 obtain ⟨sv,h1,h2,h3,h4⟩ := a
 exact ⟨sv,h1,h2,Sl.sub h3 s,h4⟩
theorem cZ.sub {B C : aA} (s : aE B C) : ∀ {q : List bB} {r : List (List AV)},cZ w0 B q r → cZ w0 C q r
 | [],[],_ => trivial
 | _ :: _,_ :: _,⟨h1,h2⟩ => ⟨h1.sub s,cZ.sub s h2⟩
 | [],_ :: _,h => h.elim
 | _ :: _,[],h => h.elim
theorem cZ.snoc {B : aA} {w : bB} {c : List AV} (h : WR w0 B w c) : ∀ {q : List bB} {r : List (List AV)},cZ w0 B q r → cZ w0 B (q ++ [w]) (r ++ [c])
 | [],[],_ => ⟨h,trivial⟩
 | _ :: _,_ :: _,⟨h1,h2⟩ => ⟨h1,cZ.snoc h h2⟩
 | [],_ :: _,h => h.elim
 | _ :: _,[],h => h.elim
theorem cZ.len {B : aA} : ∀ {q : List bB} {r : List (List AV)},cZ w0 B q r → r.length = q.length
 | [],[],_ => rfl
 | _ :: _,_ :: _,⟨_,h2⟩ => by have := cZ.len h2; simp [this]
 | [],_ :: _,h => h.elim
 | _ :: _,[],h => h.elim
theorem WR.nine {B : aA} {w : bB} {c : List AV} (a : WR w0 B w c) : c.length = 9 := by
 obtain ⟨sv,rfl,h2,_⟩ := a
 simp [h2]
theorem WR.one {B : aA} {w : bB} {c : List AV} (a : WR w0 B w c) : c.all Ab.one = true := by
 obtain ⟨sv,rfl,_,h3,_⟩ := a
 rw [List.all_append,bQ]
 simp [SlI.one h3]
theorem cZ.one {B : aA} : ∀ {q : List bB} {r : List (List AV)},cZ w0 B q r → ∀ c ∈ r,c.all Ab.one = true
 | [],[],_,c,hc => by simp at hc
 | _ :: _,_ :: _,⟨h1,h2⟩,c,hc => by
  rcases List.mem_cons.1 hc with rfl | hc
  · exact h1.one
  · exact cZ.one h2 c hc
 | [],_ :: _,h,_,_ => h.elim
 | _ :: _,[],h,_,_ => h.elim
def cQ (progs : List (List aF)) (st : List Int) (j : Nat) : Option Nat := (List.range j).find? fun w => (stepS progs st w).isSome && (aY progs st w).isNone
def gI (progs : List (List aF)) (st : List Int) (j : Nat) : Bool := (List.range j).any fun w => (aY progs st w).isSome
theorem uM {progs : List (List aF)} {st : List Int} {j : Nat} : cQ progs st (j + 1) = match cQ progs st j with
 | some w => some w
 | none => if ((stepS progs st j).isSome && (aY progs st j).isNone) = true then some j else none := by
 rw [cQ,List.range_succ,List.find?_append]
 rw [show (List.range j).find? (fun w => (stepS progs st w).isSome && (aY progs st w).isNone) = cQ progs st j from rfl]
 cases cQ progs st j with
 | some w => rfl
 | none =>
  rw [Option.none_or,List.find?_cons]
  cases (stepS progs st j).isSome && (aY progs st j).isNone <;> rfl
theorem oS {progs : List (List aF)} {st : List Int} {j : Nat} (h : ((stepS progs st j).isSome && (aY progs st j).isNone) = false) : cQ progs st (j + 1) = cQ progs st j := by
 rw [uM]
 cases cQ progs st j with
 | some w => rfl
 | none => simp only [h]; rfl
theorem zM {progs : List (List aF)} {st : List Int} {j w : Nat} (h : cQ progs st j = some w) : cQ progs st (j + 1) = some w := by rw [uM,h]
theorem aAL {progs : List (List aF)} {st : List Int} {j : Nat} (h : cQ progs st j = none) (h2 : ((stepS progs st j).isSome && (aY progs st j).isNone) = true) : cQ progs st (j + 1) = some j := by rw [uM,h]; simp only [h2]; rfl
theorem aCC {progs : List (List aF)} {st : List Int} {j : Nat} : gI progs st (j + 1) = (gI progs st j || (aY progs st j).isSome) := by
 rw [gI,List.range_succ,List.any_append,gI]; simp
theorem nE {progs : List (List aF)} {st : List Int} : cT progs st = ((cQ progs st progs.length).isSome && !gI progs st progs.length) := by
 rw [Bool.eq_iff_iff,fH,Bool.and_eq_true,Bool.not_eq_true']
 constructor
 · rintro ⟨h1,w,h2,h3⟩
   refine ⟨?_,?_⟩
   · rw [cQ,List.find?_isSome]
     exact ⟨w,List.mem_range.2 h2,by rw [h3,h1 w h2]; rfl⟩
   · rw [gI,List.any_eq_false]
     intro x hx
     rw [h1 x (List.mem_range.1 hx)]; simp
 · rintro ⟨h1,h2⟩
   rw [cQ,List.find?_isSome] at h1
   rw [gI,List.any_eq_false] at h2
   obtain ⟨w,hw,hs⟩ := h1
   refine ⟨fun x hx => by simpa using h2 x (List.mem_range.2 hx),w,List.mem_range.1 hw,?_⟩
   rw [Bool.and_eq_true] at hs
   exact hs.1
theorem wJ {progs : List (List aF)} {st : List Int} {j w : Nat} (h : cQ progs st j = some w) : w < j ∧ (stepS progs st w).isSome = true := by
 have h1 := List.mem_of_find?_eq_some h
 have h2 := List.find?_some h
 rw [Bool.and_eq_true] at h2
 exact ⟨List.mem_range.1 h1,h2.1⟩
def cV (progs : List (List aF)) (st : List Int) : Nat := (cQ progs st progs.length).getD 0
def wV (o : Option Nat) : AV := .int .i64 (match o with
 | some w => (w : Int)
 | none => -1)
structure QM (w0 : World) (h B H : aA) (sb qb wb : Nat) (qv : AV) (q : List bB) (M : List (List Int)) (rows : List (List AV)) (c0 : List AV) : Prop where
 hB : aE h B
 Q : QV B H qb qv rows
 rows : cZ w0 B q rows
 seen : H[sb]? = some (some (.map (fR M)))
 sN : ∀ b,B[sb]? ≠ some (some b)
 cur : H[wb]? = some (some (.row c0))
 ne : sb ≠ qb ∧ wb ≠ qb ∧ wb ≠ sb
 io : ∀ io off n,qv = .sl (.own io off) n 9 false → io ≠ sb ∧ io ≠ wb
 hw : h.length ≤ wb ∧ h.length ≤ sb ∧ h.length ≤ qb
theorem QM.app {B H L : aA} {sb qb wb : Nat} {qv : AV} {q : List bB} {M : List (List Int)} {rows : List (List AV)} {c0 : List AV} (a : QM w0 h B H sb qb wb qv q M rows c0) : QM w0 h B (H ++ L) sb qb wb qv q M rows c0 :=
 ⟨a.hB,a.Q.app,a.rows,aC a.seen,a.sN,aC a.cur,a.ne,a.io,a.hw⟩
theorem QM.met {B H : aA} {sb qb wb : Nat} {qv : AV} {q : List bB} {M M' : List (List Int)} {rows : List (List AV)} {c0 : List AV} (a : QM w0 h B H sb qb wb qv q M rows c0) : QM w0 h B (H.set sb (some (.map (fR M')))) sb qb wb qv q M' rows c0 :=
 ⟨a.hB,a.Q.set a.sN (fun e => a.ne.1 e.symm) (fun io off n e => (a.io io off n e).1),a.rows,by rw [qF (aL a.seen)],a.sN,by rw [qB (fun e => a.ne.2.2 e.symm)]; exact a.cur,a.ne,a.io,a.hw⟩
def msq (H : aA) (qb : Nat) (qv : AV) : aA := match qv with
 | .sl (.own io _) _ _ _ => (H.set qb none).set io none
 | _ => H.set qb none
theorem cY {X : aA} {i j : Nat} {b : Blk} (e : (X.set i none)[j]? = some (some b)) : i ≠ j ∧ X[j]? = some (some b) := by
 by_cases q : i = j
 · subst q
   have := aL e
   rw [List.length_set] at this
   rw [qF this] at e; cases e
 · rw [qB q] at e; exact ⟨q,e⟩
theorem QV.msq {B H : aA} {qb : Nat} {qv : AV} {rows : List (List AV)} (a : QV B H qb qv rows) : QV (msq H qb qv) H qb qv rows ∧ aE B (msq H qb qv) ∧ (∀ i b,i ≠ qb → (∀ io off n,qv = .sl (.own io off) n 9 false → io ≠ i) → H[i]? = some b → (msq H qb qv)[i]? = some b) ∧ (msq H qb qv).length = H.length := by
 have hs : ∀ (X : aA) i,aE X H → aE (X.set i none) H := fun X i s => aE.msk.trans s
 rcases a.val with ⟨h1,h2⟩ | ⟨io,off,c,h1,h2,h3,h4,h5,h6⟩
 · subst h1
   have e : Ab.msq H qb .nilS = H.set qb none := rfl
   rw [e]
   refine ⟨a.base (hs _ _ aE.refl) (fun b e => (cY e).1 rfl) (fun io off n e => by cases e),a.sub.setN a.nb,fun i b h1 _ e => by rw [qB h1.symm]; exact e,by simp⟩
 · subst h1
   have e : Ab.msq H qb (.sl (.own io off) rows.length 9 false) = (H.set qb none).set io none := rfl
   rw [e]
   refine ⟨a.base (hs _ _ (hs _ _ aE.refl)) (fun b e => (cY (cY e).2).1 rfl) (fun io' off' n e b e2 => by cases e; exact (cY e2).1 rfl),(a.sub.setN a.nb).setN h6,fun i b h1 h2 e => by rw [qB (h2 io off _ rfl),qB h1.symm]; exact e,by simp⟩
theorem QM.put {B H K : aA} {sb qb wb : Nat} {qv : AV} {q : List bB} {M : List (List Int)} {rows : List (List AV)} {c0 : List AV} (a : QM w0 h B H sb qb wb qv q M rows c0) (hK : aE H K) {m : Nat} {s sch : List Int} (hm : H.length ≤ m) (hkm : K[m]? = some (some (.row (aK sch)))) (hs8 : s.length = 8) (hne : sch ≠ []) (hq : q.length ≤ 5000) :
 ACall Tryz.prog w0 86 [.ptr (.own qb 0),.agg (aK s ++ [.sl (.own m 0) sch.length 1 false])] K fun v H' => ∃ B' qv' rows',aE B B' ∧ QM w0 h B' H' sb qb wb qv' (q ++ [(s,sch)]) M rows' c0 := by
 have hKl := hK.1
 have qvK : QV B K qb qv rows := by
  refine ⟨a.Q.sub.trans hK,hK.2 _ _ a.Q.box,a.Q.nb,a.Q.nine,?_⟩
  rcases a.Q.val with h1 | ⟨io,off,c,h1,h2,h3,h4⟩
  · exact .inl h1
  · exact .inr ⟨io,off,c,h1,h2,hK.2 _ _ h3,h4⟩
 obtain ⟨b1,b2,b3,b4⟩ := qvK.msq
 have hqH := aL a.Q.box
 have hioH : ∀ io off n,qv = .sl (.own io off) n 9 false → io < H.length := fun io off n e => by
  rcases a.Q.val with ⟨h1,_⟩ | ⟨io',off',c,h1,h2,h3,_⟩
  · rw [h1] at e; cases e
  · rw [h1] at e; cases e; exact aL h3
 have km := b3 m _ (by omega) (fun io off n e => by have := hioH _ _ _ e; omega) hkm
 have ks := b3 sb _ a.ne.1 (fun io off n e => (a.io _ _ _ e).1) (hK.2 _ _ a.seen)
 have kw := b3 wb _ a.ne.2.1 (fun io off n e => (a.io _ _ _ e).2) (hK.2 _ _ a.cur)
 have hsH := aL a.seen
 have hwH := aL a.cur
 refine (put_c b1 (by simp [hs8]) (by rw [List.all_append,bQ]; rfl) (by rw [a.rows.len]; exact hq)).mono fun v H' ⟨_,qv',c1,c2⟩ => ?_
 obtain ⟨B1,hB1⟩ : ∃ B1,B1 = msq K qb qv := ⟨_,rfl⟩
 rw [← hB1] at b1 b2 b4 c1 km ks kw
 have d1 : aE (B1.set sb none) H' := aE.msk.trans c1.sub
 have d2 : aE B (B1.set sb none) := b2.setN a.sN
 have d3 : (B1.set sb none)[m]? = some (some (.row (aK sch))) := by rw [qB (by omega)]; exact km
 refine ⟨B1.set sb none,qv',_,d2,a.hB.trans d2,c1.base d1 (fun b e => b1.nb b (cY e).2) (fun io off n e b e2 => ?_),(a.rows.sub d2).snoc ⟨_,rfl,hs8,iU d3 rfl,fun e => absurd e hne⟩,c1.sub.2 _ _ ks,fun b e => (cY e).1 rfl,c1.sub.2 _ _ kw,a.ne,fun io off n e => ?_,a.hw⟩
 · have := c2 _ _ _ e
   have := aL e2
   rw [List.length_set,b4] at this; omega
 · have := c2 _ _ _ e
   exact ⟨by omega,by omega⟩
theorem QM.next {B H : aA} {sb qb wb : Nat} {qv : AV} {q : List bB} {M : List (List Int)} {rows : List (List AV)} {c0 : List AV} (a : QM w0 h B H sb qb wb qv q M rows c0) :
 ACall Tryz.prog w0 87 [.ptr (.own qb 0)] (H ++ [some (.row c0)]) fun v H' => H'[H.length]? = some (some (.row c0)) ∧ ∃ (o : Option bB) (q' : List bB) (c0' : List AV),q = o.toList ++ q' ∧ v = .tup [.agg c0',.bool o.isSome] ∧ c0'.length = 9 ∧ c0'.all Ab.one = true ∧
  ∃ B2 qv' rows',aE B B2 ∧ QM w0 h B2 (H'.set H.length (some (.row c0'))) sb qb H.length qv' q' M rows' c0' ∧ (match o with
   | some w => WR w0 B2 w c0'
   | none => q' = []) := by
 obtain ⟨G,hG⟩ : ∃ G,G = H ++ [some (.row c0)] := ⟨_,rfl⟩
 rw [← hG]
 have aG : QM w0 h B G sb qb wb qv q M rows c0 := hG ▸ a.app
 have gH : G[H.length]? = some (some (.row c0)) := by rw [hG,qI (Nat.le_refl _),Nat.sub_self]; rfl
 obtain ⟨b1,b2,b3,b4⟩ := aG.Q.msq
 have hqH := aL a.Q.box
 have hioH : ∀ io off n,qv = .sl (.own io off) n 9 false → io < H.length := fun io off n e => by
  rcases a.Q.val with ⟨h1,_⟩ | ⟨io',off',c,h1,h2,h3,_⟩
  · rw [h1] at e; cases e
  · rw [h1] at e; cases e; exact aL h3
 obtain ⟨B1,hB1⟩ : ∃ B1,B1 = msq G qb qv := ⟨_,rfl⟩
 rw [← hB1] at b1 b2 b3 b4
 have kn := b3 H.length _ (by omega) (fun io off n e => by have := hioH _ _ _ e; omega) gH
 have ks := b3 sb _ a.ne.1 (fun io off n e => (a.io _ _ _ e).1) aG.seen
 have hsH := aL a.seen
 have hhw := a.hw
 have hhB := a.Q.sub.1
 have hhh := a.hB.1
 have e1 : ∀ H',aE B1 H' → ∀ x,aE ((B1.set sb none).set H.length none) (H'.set H.length x) := fun H' s x => ((aE.msk.trans aE.msk).trans s).setN fun b e => (cY e).1 rfl
 have e2 : aE B ((B1.set sb none).set H.length none) := (b2.setN a.sN).setN fun b e => by have := aL e; omega
 have e3 : ∀ b,((B1.set sb none).set H.length none)[sb]? ≠ some (some b) := fun b e => (cY (cY e).2).1 rfl
 have mk : ∀ (H' : aA) (qv' : AV) (r : List (List AV)) (q' : List bB) (c0' : List AV),QV B1 H' qb qv' r → (∀ io off n,qv' = .sl (.own io off) n 9 false → ∃ o n,qv = .sl (.own io o) n 9 false) → cZ w0 B q' r →
  QM w0 h ((B1.set sb none).set H.length none) (H'.set H.length (some (.row c0'))) sb qb H.length qv' q' M r c0' := fun H' qv' r q' c0' k1 k2 k3 => by
  have hl := aL (k1.sub.2 _ _ kn)
  have f1 : QV ((B1.set sb none).set H.length none) H' qb qv' r := k1.base ((aE.msk.trans aE.msk).trans k1.sub) (fun b e => k1.nb b (cY (cY e).2).2) (fun io off n e b e4 => by
   rcases k1.val with ⟨h1,_⟩ | ⟨io',off',c,h1,h2,h3,h4,h5,h6⟩
   · rw [h1] at e; cases e
   · rw [h1] at e; cases e
     exact h6 b (cY (cY e4).2).2)
  refine ⟨a.hB.trans e2,f1.set (fun b e => (cY e).1 rfl) (by omega) (fun io off n e => ?_),k3.sub e2,by rw [qB (by omega)]; exact k1.sub.2 _ _ ks,e3,by rw [qF hl],⟨a.ne.1,by omega,by omega⟩,fun io off n e => ?_,by omega⟩
  · obtain ⟨o,n',e4⟩ := k2 _ _ _ e
    have := hioH _ _ _ e4; omega
  · obtain ⟨o,n',e4⟩ := k2 _ _ _ e
    have := hioH _ _ _ e4
    exact ⟨(a.io _ _ _ e4).1,by omega⟩
 have hro := a.rows
 have hone := a.rows.one
 cases q with
 | nil =>
  cases rows with
  | cons c r => exact hro.elim
  | nil =>
   refine (uO b1 hone).mono fun v H' hk => ?_
   obtain ⟨h1,h2⟩ := hk
   exact ⟨h2.sub.2 _ _ kn,none,[],aAK,rfl,h1,rfl,rfl,_,_,_,e2,mk H' qv [] [] aAK h2 (fun io off n e => ⟨off,n,e⟩) trivial,rfl⟩
 | cons w q =>
  cases rows with
  | nil => exact hro.elim
  | cons c r =>
   obtain ⟨h3,h4⟩ := hro
   refine (uO b1 hone).mono fun v H' hk => ?_
   obtain ⟨h1,qv',h2,h5⟩ := hk
   exact ⟨h2.sub.2 _ _ kn,some w,q,c,rfl,h1,h3.nine,h3.one,_,_,_,e2,mk H' qv' r q c h2 h5 h4,h3.sub e2⟩
def fN (w0 : World) (H : aA) (y : AV) (things : Int) (progs : List (List aF)) (o : Option bB) : Prop :=
 if dF progs = true then y = .tup [.nilS,.nilS,.int .i64 3]
 else if dR things progs = true then match o with
  | none => y = .tup [.nilS,.nilS,.int .i64 5]
  | some w => ∃ sv cv,y = .tup [sv,cv,.int .i64 0] ∧ SlI w0 H sv w.2 ∧ SlI w0 H cv (nis (eG progs w.1 5 (cV progs w.1) []))
 else y = .tup [.nilS,.nilS,.int .i64 2]
theorem aBn : mu [(aP,[])] = 5 ^ 25 := by simp [mu]
set_option maxRecDepth 20000 in
set_option maxHeartbeats 4000000 in
theorem aFA {v : AV} {progs : List (List aF)} (things : Int) (F : Nat) (hF : 5 ^ 25 ≤ F) (hv : PS w0 h v progs) (hn : progs.length < 1000000) (hn2 : ∀ x ∈ progs,x.length < 1000000) :
 ACall Tryz.prog w0 36 [.int .i64 things,v] h fun y H => aE h H ∧ fN w0 H y things progs (bfs progs F [(aP,[])] [aP]) := by
 refine bH aW xI aBH aBG (qE rfl) fun hb ha => bF ?_
 obtain ⟨C,hC⟩ : ∃ C,C = bfs progs F [(aP,[])] [aP] := ⟨_,rfl⟩
 rw [← hC]
 simp only [go_sem,mf36]
 refine aI (long_c hv.app hn).v ?_
 cases hL : dF progs with
 | true =>
  simp only [go_sem]
  exact ⟨aE.refl.app,by unfold fN; rw [if_pos hL]⟩
 | false =>
 have hno : ¬ dF progs = true := by rw [hL]; simp
 simp only [go_sem]
 refine aI (qQ things hv.app hn hn2).v ?_
 cases hP : dR things progs with
 | false =>
  simp only [go_sem]
  exact ⟨aE.refl.app,by unfold fN; rw [if_neg hno,if_neg (by simp [hP])]⟩
 | true =>
 obtain ⟨n,rfl,g⟩ := PG.of hP hL
 have p4 := g.p4
 simp only [go_sem]
 refine aI free_c.v ?_
 simp only [go_sem,show aK (qT 4) = [.int .i64 (-1),.int .i64 (-1),.int .i64 (-1),.int .i64 (-1)] from rfl]
 obtain ⟨X,hX⟩ : ∃ X,X = h ++ [some (Blk.row (aK aP)),some (Blk.map (fR []))] := ⟨_,rfl⟩
 obtain ⟨Y,hY⟩ : ∃ Y,Y = X.set (h.length + 1) (some (Blk.map (fR [aP]))) := ⟨_,rfl⟩
 have hput : jI X k8 (.map (h.length + 1)) (.agg (aK aP)) (.bool true) = some (.undef,Y) := by
  rw [sK (M := []) (by rw [hX,qI (by omega),show h.length + 1 - h.length = 1 by omega]; rfl) rfl (by simp) (by simp),hY]; rfl
 have y0 : Y[h.length]? = some (some (.row (aK aP))) := by rw [hY,qB (by omega),hX,qI (Nat.le_refl _),Nat.sub_self]; rfl
 have y1 : Y[h.length + 1]? = some (some (.map (fR [aP]))) := by rw [hY,qF (by rw [hX]; simp)]
 have yl : Y.length = h.length + 2 := by rw [hY,hX]; simp
 have hsY : aE h Y := by rw [hY,hX]; exact (aE.refl.app).setN fun b e => by have := aL e; omega
 rw [hX] at hput
 have lit : aK aP = [.int .i64 0,.int .i64 0,.int .i64 0,.int .i64 0,.int .i64 (-1),.int .i64 (-1),.int .i64 (-1),.int .i64 (-1)] := rfl
 have lit0 : fR [] = [] := rfl
 rw [lit,lit0] at hput
 rw [lit] at y0
 simp only [go_sem,hput,xL y0]
 have Q0 : QV Y (Y ++ [some (Blk.row [.nilS])]) Y.length .nilS [] := ⟨aE.refl.app,by rw [qI (Nat.le_refl _),Nat.sub_self]; rfl,fun b e => by have := aL e; omega,by simp,.inl ⟨rfl,rfl⟩⟩
 refine aR (ACall.vc (first := []) (put_c (w0 := w0) (x := [.int .i64 0,.int .i64 0,.int .i64 0,.int .i64 0,.int .i64 (-1),.int .i64 (-1),.int .i64 (-1),.int .i64 (-1),.nilS]) Q0 rfl rfl (by simp))) ?_
 rintro _ H1 ⟨rfl,qv1,Q1,_⟩
 simp only [go_sem]
 rw [List.nil_append] at Q1
 refine aR (ACall.vc (first := []) (uO (w0 := w0) Q1 (fun r hr => by rw [List.mem_singleton.1 hr]; rfl))) ?_
 rintro _ H2 ⟨rfl,qv2,Q2,_⟩
 obtain ⟨x0,hx0⟩ : ∃ x0 : List AV,x0 = [.int .i64 0,.int .i64 0,.int .i64 0,.int .i64 0,.int .i64 (-1),.int .i64 (-1),.int .i64 (-1),.int .i64 (-1),.nilS] := ⟨_,rfl⟩
 have x9 : x0.length = 9 := by rw [hx0]; rfl
 have xo : x0.all one = true := by rw [hx0]; rfl
 have xt : x0.take 9 = x0 := List.take_of_length_le (by omega)
 rw [← hx0]
 simp only [go_sem,x9,xo,xt,List.append_nil]
 obtain ⟨sb,hsb⟩ : ∃ sb,sb = h.length + 1 := ⟨_,rfl⟩
 obtain ⟨qb,hqb⟩ : ∃ qb,qb = Y.length := ⟨_,rfl⟩
 rw [← hsb,← hqb]
 rw [← hqb] at Q2
 rw [← hsb] at y1
 have hH2 := aL Q2.box
 have hYs := Q2.sub
 have M0 : QM w0 h (Y.set sb none) (H2 ++ [some (Blk.row x0)]) sb qb H2.length qv2 [] [aP] [] x0 := by
  refine ⟨by rw [hY,hsb,List.set_set,hX]; exact (aE.refl.app).setN fun b e => by have := aL e; omega,(Q2.app).base (aE.msk.trans hYs.app) (fun b e => Q2.nb b (cY e).2) (fun io off n e => ?_),trivial,aC (hYs.2 _ _ y1),fun b e => (cY e).1 rfl,by rw [qI (Nat.le_refl _),Nat.sub_self]; rfl,by have := hYs.1; omega,fun io off n e => ?_,by have := hYs.1; omega⟩
  · rcases Q2.val with ⟨h1,_⟩ | ⟨io',off',c,h1,h2,h3,h4,h5,h6⟩
    · rw [h1] at e; cases e
    · rw [h1] at e; cases e
      exact fun b e2 => h6 b (cY e2).2
  · rcases Q2.val with ⟨h1,_⟩ | ⟨io',off',c,h1,h2,h3,h4,h5,h6⟩
    · rw [h1] at e; cases e
    · rw [h1] at e; cases e
      refine ⟨fun e2 => h6 _ (by rw [e2]; exact y1),by have := aL h3; omega⟩
 have W0 : WR w0 (Y.set sb none) (aP,[]) x0 := ⟨.nilS,by rw [hx0]; rfl,rfl,.inl ⟨rfl,rfl⟩,fun _ => rfl⟩
 obtain ⟨H3,hH3⟩ : ∃ H3,H3 = H2 ++ [some (Blk.row x0)] := ⟨_,rfl⟩
 rw [← hH3] at M0 ⊢
 have hlen := hv.len
 refine cU (S := Nat × (aA × aA) × (Nat × AV) × (Option bB × List bB) × List (List Int) × List (List AV) × List AV)
  (F := fun s => [(1,v),(8,.map sb),(9,.ptr (.own qb 0)),(10,.ptr (.own s.2.2.1.1 0)),(11,.bool s.2.2.2.1.1.isSome)]) (H := fun s => s.2.1.2) (meas := fun s => s.1)
  (Inv := fun s => C = bfs progs s.1 (s.2.2.2.1.1.toList ++ s.2.2.2.1.2) s.2.2.2.2.1 ∧ mu (s.2.2.2.1.1.toList ++ s.2.2.2.1.2) ≤ s.1 ∧ QI n progs (s.2.2.2.1.1.toList ++ s.2.2.2.1.2) s.2.2.2.2.1 ∧
   QM w0 h s.2.1.1 s.2.1.2 sb qb s.2.2.1.1 s.2.2.1.2 s.2.2.2.1.2 s.2.2.2.2.1 s.2.2.2.2.2.1 s.2.2.2.2.2.2 ∧ match s.2.2.2.1.1 with
    | some w => WR w0 s.2.1.1 w s.2.2.2.2.2.2
    | none => s.2.2.2.1.2 = [])
  (F,(Y.set sb none,H3),(H2.length,qv2),(some (aP,[]),[]),[aP],[],x0) ⟨hC,by simp [mu]; exact hF,QI.start g,M0,W0⟩ rfl rfl ?_
 rintro ⟨k,⟨B,H⟩,⟨wb,qv⟩,⟨cur,q⟩,M,rows,c0⟩ ⟨hc,hmu,hqi,hqm,hcur⟩ ih
 simp only at hc hmu hqi hqm hcur ih ⊢
 have hsubH : aE h H := hqm.hB.trans hqm.Q.sub
 refine aT aW aFL [1,8,9,10,11] L36_1.eq_1 ?_
 match cur,hc,hmu,hqi,hcur,ih with
 | none,hc,hmu,hqi,hcur,ih =>
  simp only at hcur
  subst hcur
  have hcn : C = none := by
   rw [hc]
   cases k <;> rfl
  simp only [go_sem,Option.isSome]
  exact ⟨hsubH,by unfold fN; rw [if_neg hno,if_pos hP,hcn]⟩
 | some w,hc,hmu,hqi,hcur,ih =>
  simp only [Option.toList_some,List.singleton_append] at hc hmu hqi hcur
  have hw := hqi.way w (by simp)
  have hl8 := hw.rs.ok.len
  have hw24 := hw.len24 g
  have hmp : 0 < 5 ^ (25 - w.2.length) := Nat.pow_pos (by omega)
  obtain ⟨k,rfl⟩ : ∃ j,k = j + 1 := ⟨k - 1,by rw [kO] at hmu; omega⟩
  rw [bfs] at hc
  obtain ⟨sv,rfl,_,hsv,hsvn⟩ := hcur
  have c1 : (aK w.1).length = 8 := by rw [cF,hl8]
  have c9 : (aK w.1 ++ [sv]).length = 9 := by simp [hl8]
  have ct : (aK w.1 ++ [sv]).take 8 = aK w.1 := by rw [List.take_append_of_le_length (by omega),List.take_of_length_le (by omega)]
  have c8 : (aK w.1 ++ [sv])[8]? = some sv := by rw [qI (by omega),c1]; rfl
  obtain ⟨c0,hc0⟩ : ∃ c0,c0 = aK w.1 ++ [sv] := ⟨_,rfl⟩
  rw [← hc0] at hqm c9 ct c8
  simp only [go_sem,Option.isSome,hlen]
  refine cU (S := Nat × (aA × aA) × AV × List (List AV)) (F := fun s => [(1,v),(8,.map sb),(9,.ptr (.own qb 0)),(10,.ptr (.own wb 0)),(12,wV (cQ progs w.1 s.1)),(13,.bool (gI progs w.1 s.1)),(48,.int .i64 progs.length),(49,.int .i64 s.1)]) (H := fun s => s.2.1.2) (meas := fun s => progs.length - s.1)
   (Inv := fun s => s.1 ≤ progs.length ∧ QM w0 h s.2.1.1 s.2.1.2 sb qb wb s.2.2.1 (cO progs w s.1 (M,q)).2 (cO progs w s.1 (M,q)).1 s.2.2.2 c0 ∧ SlI w0 s.2.1.1 sv w.2) (0,(B,H),qv,rows) ⟨Nat.zero_le _,hqm,hsv⟩ rfl rfl ?_
  rintro ⟨j,⟨B,H⟩,qv,rows⟩ ⟨hj,hqm,hsv⟩ ih2
  simp only at hj hqm hsv ih2 ⊢
  have hsubH : aE h H := hqm.hB.trans hqm.Q.sub
  have hqiJ := QI.pushes g (x := (M,q)) hqi.tail hw hj
  refine aT aW aFM [1,8,9,10,12,13,48,49] L36_0.eq_1 ?_
  by_cases hjl : j < progs.length
  · have e1 : (j : Int) < progs.length := by omega
    have hst := hw.rs.ok
    have hcur := hqm.cur
    have t8 : (aK w.1).take 8 = aK w.1 := List.take_of_length_le (by omega)
    have d8 : (aK w.1).drop 8 = [] := List.drop_of_length_le (by omega)
    obtain ⟨x,hx⟩ : ∃ x,x = cO progs w j (M,q) := ⟨_,rfl⟩
    rw [← hx] at hqm hqiJ
    have hxs : cO progs w (j + 1) (M,q) = cW progs w x j := by rw [iJ,← hx]
    have cont : ∀ (H' B' : aA) (qv' : AV) (rows' : List (List AV)) (a : AV) (b : Bool),cW progs w x j = x → a = wV (cQ progs w.1 (j + 1)) → b = gI progs w.1 (j + 1) → QM w0 h B' H' sb qb wb qv' x.2 x.1 rows' c0 → SlI w0 B' sv w.2 → lp Tryz.prog w0 none 111 h.length _ _ _ [(1,v),(8,.map sb),(9,.ptr (.own qb 0)),(10,.ptr (.own wb 0)),(12,a),(13,.bool b),(48,.int .i64 progs.length),(49,.int .i64 ((j + 1 : Nat) : Int))] H' := fun H' B' qv' rows' a b e1 e2 e3 e4 e5 => by
     subst e2; subst e3
     exact ih2 (j + 1,(B',H'),qv',rows') ⟨by simp only; omega,by simp only; rw [hxs,e1]; exact e4,e5⟩ (by simp only; omega)
    simp only [go_sem,e1,hcur,c9,ct,List.drop_zero]
    refine aI (aFz (hv.sub hsubH) g.good hst hjl p4).v ?_
    cases hns : aY progs w.1 j with
    | none =>
     have hpw : cW progs w x j = x := by rw [cW,hns]
     have hgo : gI progs w.1 (j + 1) = gI progs w.1 j := by rw [aCC,hns]; simp
     simp only [go_sem,oJ,bQ,c1,t8,d8,List.append_nil,xL hcur,c9,ct,List.drop_zero]
     refine aI (pV (hv.sub hsubH).app hst hjl p4).v ?_
     cases hss : stepS progs w.1 j with
     | none =>
      simp only [go_sem,fA]
      refine ⟨(by unfold I64; omega),cont _ B qv rows _ _ hpw ?_ hgo.symm hqm.app hsv⟩
      rw [oS (by rw [hss]; rfl)]
     | some s =>
      have hb : ((stepS progs w.1 j).isSome && (aY progs w.1 j).isNone) = true := by rw [hss,hns]; rfl
      cases hwt : cQ progs w.1 j with
      | none =>
       simp only [go_sem,fA,aF.c,wV]
       refine ⟨(by unfold I64; omega),cont _ B qv rows _ _ hpw ?_ hgo.symm hqm.app hsv⟩
       rw [aAL hwt hb]; rfl
      | some u =>
       have e3 : ¬ (u : Int) = -1 := by omega
       simp only [go_sem,fA,aF.c,wV,e3]
       refine ⟨(by unfold I64; omega),cont _ B qv rows _ _ hpw ?_ hgo.symm hqm.app hsv⟩
       rw [zM hwt]; rfl
    | some s =>
     have hgo : gI progs w.1 (j + 1) = true := by rw [aCC,hns]; simp
     have hws : cQ progs w.1 (j + 1) = cQ progs w.1 j := oS (by rw [hns]; simp)
     obtain ⟨sx,hss⟩ : ∃ sx,stepS progs w.1 j = some sx := by
      cases e : stepS progs w.1 j with
      | none => rw [aY,e] at hns; cases hns
      | some sx => exact ⟨sx,rfl⟩
     have hrs := (hw.rs.next g hjl hns).1
     have s8 := hrs.ok.len
     have z1 : (aK s).length = 8 := by rw [cF,s8]
     have zt : (aK s).take 8 = aK s := List.take_of_length_le (by omega)
     have zd : (aK s).drop 8 = [] := List.drop_of_length_le (by omega)
     simp only [go_sem,oJ,bQ,z1,zt,zd,List.append_nil,xL hcur,c9,ct,List.drop_zero]
     refine aI (pV (hv.sub hsubH).app hst hjl p4).v ?_
     rw [hss]
     have hM8 : ∀ m ∈ x.1,m.length = 8 := fun m hm => (hqiJ.sn m hm).ok.len
     have lk : ∀ L,lZ (H ++ L) (true,[true,true,true,true,true,true,true,true]) (.bool false) false (.map sb) (.agg (aK s)) = some (.bool (decide (s ∈ x.1))) := fun L => aAc (xL hqm.seen L) s8 hM8
     by_cases hm : s ∈ x.1
     · have hpw : cW progs w x j = x := by rw [cW,hns]; exact if_pos hm
       have hmd := decide_eq_true hm
       rw [hmd] at lk
       simp only [go_sem,fA,aF.c,z1,zt,lk]
       exact ⟨(by unfold I64; omega),cont _ B qv rows _ _ hpw (by rw [hws]) hgo.symm hqm.app hsv⟩
     · have hmd := decide_eq_false hm
       rw [hmd] at lk
       have hpw : cW progs w x j = (x.1 ++ [s],x.2 ++ [(s,w.2 ++ [(j : Int)])]) := by rw [cW,hns]; exact if_neg hm
       obtain ⟨Z,hZ⟩ : ∃ Z,Z = H ++ [some (Blk.row (aK s)),some (Blk.row [AV.int IntKind.i64 sx.kind,AV.int IntKind.i64 sx.thing])] := ⟨_,rfl⟩
       have hqZ : QM w0 h B Z sb qb wb qv x.2 x.1 rows c0 := hZ ▸ hqm.app
       obtain ⟨U,hU⟩ : ∃ U,U = Z.set sb (some (.map (fR (x.1 ++ [s])))) := ⟨_,rfl⟩
       have mp : jI Z (true,[true,true,true,true,true,true,true,true]) (.map sb) (.agg (aK s)) (.bool true) = some (.undef,U) := by rw [hU]; exact sK hqZ.seen s8 hM8 hm
       have hqU : QM w0 h B U sb qb wb qv x.2 (x.1 ++ [s]) rows c0 := hU ▸ hqZ.met
       have hsH := aL hqm.seen
       have u0 : U[H.length]? = some (some (.row (aK s))) := by rw [hU,qB (by omega),hZ,qI (Nat.le_refl _),Nat.sub_self]; rfl
       rw [hZ] at mp
       simp only [go_sem,fA,aF.c,z1,zt,lk,mp]
       have hcU := hqU.cur
       have g9 : 9 ≤ (aK s ++ [AV.nilS]).length := by simp [s8]
       have gt : List.take 8 (aK s ++ [AV.nilS]) = aK s := by rw [List.take_append_of_le_length (by omega),zt]
       have gd : List.drop 9 (aK s ++ [AV.nilS]) = [] := List.drop_of_length_le (by simp [s8])
       have hq5 : x.2.length ≤ 5000 := by have := hqiJ.q_len g; omega
       refine dr_fp2 aW (fun fr K => (fr.get 1 = v ∧ fr.get 8 = .map sb ∧ fr.get 9 = .ptr (.own qb 0) ∧ fr.get 10 = .ptr (.own wb 0) ∧ fr.get 12 = wV (cQ progs w.1 j) ∧ fr.get 13 = .bool true ∧ fr.get 48 = .int .i64 progs.length ∧ fr.get 49 = .int .i64 j) ∧ ∃ B' qv' rows',aE B B' ∧ QM w0 h B' K sb qb wb qv' (x.2 ++ [(s,w.2 ++ [(j : Int)])]) (x.1 ++ [s]) rows' c0) 4 6 [0,1,2,3,5,4,6,7,8,9] [0,1,2,3,5,6,4,7,8,9] [o_ 86 (m_ 9),o_ 87 (.load (.t 15) (some 8)),o_ 88 (.addr (.t 10) 8),o_ 89 (l_ 88),o_ 91 (m_ 14),.call (some 90) none (f_ 90) [(.t 89)]] [([(1,o_ 87 (.load (.t 15) (some 8)))],[o_ 92 (.bslice 1 [(.int .i64 0)] 1 [(0,1,(.t 91))]),o_ 93 (.app 1 [(.int .i64 0)] 8 (.t 90) (.t 92))]),([(1,o_ 87 (.load (.t 15) (some 8)))],[o_ 94 (.build [(.int .i64 0),(.int .i64 0),(.int .i64 0),(.int .i64 0),(.int .i64 0),(.int .i64 0),(.int .i64 0),(.int .i64 0),.nilS] [(0,8,(.t 87)),(8,1,(.t 93))]),.call (some 95) none (f_ 86) [(.t 86),(.t 94)]])] [o_ 86 (m_ 9),o_ 87 (.load (.t 15) (some 8)),o_ 88 (.addr (.t 10) 8),o_ 89 (l_ 88),o_ 91 (m_ 14),o_ 92 (.bslice 1 [(.int .i64 0)] 1 [(0,1,(.t 91))]),.call (some 90) none (f_ 90) [(.t 89)]] [([(1,o_ 87 (.load (.t 15) (some 8)))],[o_ 93 (.app 1 [(.int .i64 0)] 8 (.t 90) (.t 92))]),([(1,o_ 87 (.load (.t 15) (some 8)))],[o_ 94 (.build [(.int .i64 0),(.int .i64 0),(.int .i64 0),(.int .i64 0),(.int .i64 0),(.int .i64 0),(.int .i64 0),(.int .i64 0),.nilS] [(0,8,(.t 87)),(8,1,(.t 93))]),.call (some 95) none (f_ 86) [(.t 86),(.t 94)]])] rfl rfl rfl rfl (by kernel_rfl) (by kernel_rfl) (by kernel_rfl) ?_ ?_ ?_
       · simp only [go_sem,u0,z1,zt,hcU,c8]
         by_cases hw0 : w.2 = []
         · obtain rfl := hsvn hw0
           refine aI tT.v ?_
           have hap := rK (w0 := w0) (h := U) (es := 1) (b := 8) (x := [.int .i64 (j : Int)]) (L := [some (.row [.int .i64 (j : Int)])]) 0 true rfl rfl rfl (by omega)
           simp only [List.length_cons,List.length_nil,List.cons_append,List.nil_append,Nat.add_zero,Nat.zero_add] at hap
           simp only [go_sem,u0,xL u0,z1,zt,hap,bQ,g9,gt,gd,List.append_nil]
           have P := hqU.put (w0 := w0) (K := U ++ [some (.row [.int .i64 (j : Int)]),some (.row [.int .i64 (j : Int)])]) (s := s) (sch := [(j : Int)]) aE.refl.app (m := U.length + 1) (by omega) (by rw [qI (by omega),show U.length + 1 - U.length = 1 by omega]; rfl) s8 (by simp) hq5
           refine aR (ACall.vc (first := []) (args := [.ptr (.own qb 0),.agg (aK s ++ [.sl (.own (U.length + 1) 0) 1 1 false])]) P) ?_
           rintro _ K2 ⟨B',qv',rows',b1,b2⟩
           simp only [go_sem]
           rw [hw0]
           exact ⟨B',qv',rows',b1,b2⟩
         · refine aR (ACall.vc (first := []) (yO (w0 := w0) (h := U) (Sl.sub hsv hqU.Q.sub) (by omega) hw0)) ?_
           rintro _ _ ⟨rfl,rfl⟩
           have hap := rJ (w0 := w0) (h := U) (es := 1) (b := 8) (n := w.2.length) (x := [.int .i64 (j : Int)]) (old := iis w.2) (L := [some (.row []),some (.row (iis w.2)),some (.row [.int .i64 (j : Int)])]) 1 2 true rfl (by simp [iis]) rfl rfl rfl (by omega) (by omega)
           simp only [List.length_cons,List.length_nil,List.cons_append,List.nil_append,Nat.add_zero,Nat.zero_add] at hap
           obtain ⟨K,hK⟩ : ∃ K,K = U ++ ([some (.row []),some (.row (iis w.2)),some (.row [.int .i64 (j : Int)])].set 1 none ++ [some (.row (iis w.2 ++ [.int .i64 (j : Int)]))]) := ⟨_,rfl⟩
           have hKs : aE U K := hK ▸ aE.refl.app
           have hKu := hKs.2 _ _ u0
           have hKm : K[U.length + 3]? = some (some (.row (aK (w.2 ++ [(j : Int)])))) := by rw [hK,qI (by omega),show U.length + 3 - U.length = 3 by omega]; rw [← tG]; rfl
           rw [← hK] at hap
           simp only [go_sem,xL u0,z1,zt,hap,hKu,bQ,g9,gt,gd,List.append_nil]
           have P := hqU.put (w0 := w0) (K := K) (s := s) (sch := w.2 ++ [(j : Int)]) hKs (m := U.length + 3) (by omega) hKm s8 (by simp) hq5
           rw [show (w.2 ++ [(j : Int)]).length = w.2.length + 1 by simp] at P
           refine aR (ACall.vc (first := []) (args := [.ptr (.own qb 0),.agg (aK s ++ [.sl (.own (U.length + 3) 0) (w.2.length + 1) 1 false])]) P) ?_
           rintro _ K2 ⟨B',qv',rows',b1,b2⟩
           simp only [go_sem]
           exact ⟨B',qv',rows',b1,b2⟩
       · simp only [go_sem,u0,z1,zt,hcU,c8]
         by_cases hw0 : w.2 = []
         · obtain rfl := hsvn hw0
           refine aI tT.v ?_
           have hap := rK (w0 := w0) (h := U) (es := 1) (b := 8) (x := [.int .i64 (j : Int)]) (L := [some (.row [.int .i64 (j : Int)])]) 0 true rfl rfl rfl (by omega)
           simp only [List.length_cons,List.length_nil,List.cons_append,List.nil_append,Nat.add_zero,Nat.zero_add] at hap
           simp only [go_sem,u0,xL u0,z1,zt,hap,bQ,g9,gt,gd,List.append_nil]
           have P := hqU.put (w0 := w0) (K := U ++ [some (.row [.int .i64 (j : Int)]),some (.row [.int .i64 (j : Int)])]) (s := s) (sch := [(j : Int)]) aE.refl.app (m := U.length + 1) (by omega) (by rw [qI (by omega),show U.length + 1 - U.length = 1 by omega]; rfl) s8 (by simp) hq5
           refine aR (ACall.vc (first := []) (args := [.ptr (.own qb 0),.agg (aK s ++ [.sl (.own (U.length + 1) 0) 1 1 false])]) P) ?_
           rintro _ K2 ⟨B',qv',rows',b1,b2⟩
           simp only [go_sem]
           rw [hw0]
           exact ⟨B',qv',rows',b1,b2⟩
         · refine aR (ACall.vc (first := []) (yO (w0 := w0) (h := U ++ [some (Blk.row [AV.int IntKind.i64 (j : Int)])]) (Sl.app (Sl.sub hsv hqU.Q.sub)) (by omega) hw0)) ?_
           rintro _ _ ⟨rfl,rfl⟩
           have hap := rJ (w0 := w0) (h := U) (es := 1) (b := 8) (n := w.2.length) (x := [.int .i64 (j : Int)]) (old := iis w.2) (L := [some (.row [.int .i64 (j : Int)]),some (.row []),some (.row (iis w.2))]) 2 0 true rfl (by simp [iis]) rfl rfl rfl (by omega) (by omega)
           simp only [List.length_cons,List.length_nil,List.cons_append,List.nil_append,Nat.add_zero,Nat.zero_add] at hap
           obtain ⟨K,hK⟩ : ∃ K,K = U ++ ([some (.row [.int .i64 (j : Int)]),some (.row []),some (.row (iis w.2))].set 2 none ++ [some (.row (iis w.2 ++ [.int .i64 (j : Int)]))]) := ⟨_,rfl⟩
           have hKs : aE U K := hK ▸ aE.refl.app
           have hKu := hKs.2 _ _ u0
           have hKm : K[U.length + 3]? = some (some (.row (aK (w.2 ++ [(j : Int)])))) := by rw [hK,qI (by omega),show U.length + 3 - U.length = 3 by omega]; rw [← tG]; rfl
           rw [← hK] at hap
           rw [List.length_append,List.append_assoc]
           simp only [go_sem,xL u0,z1,zt,hap,hKu,bQ,g9,gt,gd,List.append_nil,List.length_cons,List.length_nil]
           have P := hqU.put (w0 := w0) (K := K) (s := s) (sch := w.2 ++ [(j : Int)]) hKs (m := U.length + 3) (by omega) hKm s8 (by simp) hq5
           rw [show (w.2 ++ [(j : Int)]).length = w.2.length + 1 by simp] at P
           refine aR (ACall.vc (first := []) (args := [.ptr (.own qb 0),.agg (aK s ++ [.sl (.own (U.length + 3) 0) (w.2.length + 1) 1 false])]) P) ?_
           rintro _ K2 ⟨B',qv',rows',b1,b2⟩
           simp only [go_sem]
           exact ⟨B',qv',rows',b1,b2⟩
       · rintro fr K ⟨⟨f1,f8,f9,f10,f12,f13,f48,f49⟩,B',qv',rows',b1,b2⟩
         simp only [go_sem,f1,f8,f9,f10,f12,f13,f48,f49]
         refine ⟨(by unfold I64; omega),?_⟩
         have := ih2 (j + 1,(B',K),qv',rows') ⟨by simp only; omega,by simp only; rw [hxs,hpw]; exact b2,Sl.sub hsv b1⟩ (by simp only; omega)
         simp only [hws,hgo] at this
         exact this
  · have e1 : ¬ (j : Int) < progs.length := by omega
    obtain rfl : j = progs.length := by omega
    have hcur := hqm.cur
    have hsw := nE (progs := progs) (st := w.1)
    have t9 : c0.take 9 = c0 := List.take_of_length_le (by omega)
    have W1 : WR w0 B w c0 := ⟨sv,hc0,hl8,hsv,hsvn⟩
    have c0o := W1.one
    cases hwt : cQ progs w.1 progs.length with
    | none =>
     rw [hwt] at hsw
     have hns : cT progs w.1 = false := by rw [hsw]; rfl
     rw [hns] at hc
     simp only [Bool.false_eq_true,if_false] at hc
     simp only [go_sem,e1,wV,hcur,c9,t9,c0o]
     rw [List.append_nil]
     refine aR (ACall.vc (first := []) (args := [.ptr (.own qb 0)]) (hqm.next (w0 := w0))) ?_
     rintro _ H' ⟨hn0,o,q',c1',hqe,rfl,n9,none_,B2,qv',rows',b1,b2,b3⟩
     have nt : c1'.take 9 = c1' := List.take_of_length_le (by omega)
     have nd : c0.drop 9 = [] := List.drop_of_length_le (by omega)
     simp only [go_sem,hn0,n9,none_,nt,c9,nd,List.append_nil]
     refine ih (k,(B2,H'.set H.length (some (.row c1'))),(H.length,qv'),(o,q'),_,rows',c1') ⟨?_,?_,?_,b2,b3⟩ (by simp only; omega)
     · simp only; rw [← hqe]; exact hc
     · simp only; rw [← hqe]; have := mR g (q := q) (seen := M) hw24; omega
     · simp only; rw [← hqe]; exact hqiJ
    | some u =>
     have e3 : ¬ (u : Int) = -1 := by omega
     have e3' : ((u : Int) != -1) = true := by simp
     rw [hwt] at hsw
     cases hgo : gI progs w.1 progs.length with
     | true =>
      rw [hgo] at hsw
      have hns : cT progs w.1 = false := by rw [hsw]; rfl
      rw [hns] at hc
      simp only [Bool.false_eq_true,if_false] at hc
      simp only [go_sem,e1,wV,e3',hcur,c9,t9,c0o]
      rw [List.append_nil]
      refine aR (ACall.vc (first := []) (args := [.ptr (.own qb 0)]) (hqm.next (w0 := w0))) ?_
      rintro _ H' ⟨hn0,o,q',c1',hqe,rfl,n9,none_,B2,qv',rows',b1,b2,b3⟩
      have nt : c1'.take 9 = c1' := List.take_of_length_le (by omega)
      have nd : c0.drop 9 = [] := List.drop_of_length_le (by omega)
      simp only [go_sem,hn0,n9,none_,nt,c9,nd,List.append_nil]
      refine ih (k,(B2,H'.set H.length (some (.row c1'))),(H.length,qv'),(o,q'),_,rows',c1') ⟨?_,?_,?_,b2,b3⟩ (by simp only; omega)
      · simp only; rw [← hqe]; exact hc
      · simp only; rw [← hqe]; have := mR g (q := q) (seen := M) hw24; omega
      · simp only; rw [← hqe]; exact hqiJ
     | false =>
      rw [hgo] at hsw
      have hns : cT progs w.1 = true := by rw [hsw]; rfl
      have hst2 := (fH.1 hns).1
      have hul := wJ hwt
      rw [hns] at hc
      simp only [if_true] at hc
      simp only [go_sem,e1,wV,e3',hcur,c9,ct,c0o]
      refine aCI aW [0,1,2,3,4,5,6,7,8,9] [o_ 103 (.addr (.t 10) 8),o_ 104 (l_ 103),o_ 105 (.addr (.t 10) 0),o_ 106 (.load (.t 105) (some 8)),o_ 107 (m_ 1),o_ 108 (m_ 12),.call (some 109) none (f_ 91) [(.t 106),(.t 107),(.t 108)]] [([(1,o_ 104 (l_ 103))],[o_ 4 (m_ 104),o_ 5 (m_ 109),o_ 6 (.mov (i_ 0))])] rfl rfl (by kernel_rfl) ?_
      simp only [go_sem,hcur,c9,ct,c8,List.drop_zero]
      refine aR (ACall.vc (first := []) (aFw (w0 := w0) (hv.sub hsubH) g hw.rs hst2 hul.1)) ?_
      rintro cv H' ⟨hs',hcv⟩
      have hcur' := hs'.2 _ _ hcur
      simp only [go_sem,hcur',c9,ct,c8,List.drop_zero]
      refine ⟨hsubH.trans hs',?_⟩
      unfold fN
      rw [if_neg hno,if_pos hP,hc]
      refine ⟨sv,cv,rfl,Sl.sub (Sl.sub hsv hqm.Q.sub) hs',?_⟩
      rw [cV,hwt]
      exact hcv
end Go.Proofs.Ab

/- The own layer under the proofs of this seat, part N: what calls of the program come to on an abstract heap. No condition. -/
import Derived.Test.YtajecdfdnlfndaaGreatM
import Derived.Test.YtajecdfdnlfndaaGreatG
set_option linter.unusedSimpArgs false
set_option linter.unusedVariables false
namespace Go.Proofs.Ab
open Go Go.Proofs
abbrev bI := List Int × List Int
structure PG (n : Nat) (progs : List (List aF)) : Prop where
 n1 : 1 ≤ n
 n4 : n ≤ 4
 p1 : 1 ≤ progs.length
 p4 : progs.length ≤ 4
 good : lE progs
 ok : ∀ x ∈ progs,bC ((n : Int) - 1) (fun _ => false) x = true
 th : ∀ x ∈ progs,∀ s ∈ x,s.thing < n
theorem PG.of {things : Int} {l : List (List aF)} (h : dZ things l = true) (hl : dJ l = false) : ∃ n : Nat,things = n ∧ PG n l := by
 obtain ⟨n,rfl,h1,h2,h3,h4,h5⟩ := oR h hl
 exact ⟨n,rfl,h1.1,h1.2,h2.1,h2.2,h3,h4,h5⟩
structure RS (n : Nat) (progs : List (List aF)) (st : List Int) : Prop where
 ok : iS progs st
 one : oE n progs st
 hi : ∀ i,progs.length ≤ i → i < 4 → st.getD i 0 = 0
 ho : ∀ t,n ≤ t → t < 4 → st.getD (4 + t) 0 = -1
section
variable {n : Nat} {progs : List (List aF)}
theorem RS.start (g : PG n progs) : RS n progs bE ∧ iG progs bE = 0 := by
 have i0 : ∀ i,i < 4 → bE.getD i 0 = 0 := by decide
 have i1 : ∀ i,i < 4 → bE.getD (4 + i) 0 = -1 := by decide
 have := oE.start (progs := progs) g.p4 g.n4
 exact ⟨⟨nR g.p4,this.1,fun i _ h => i0 i h,fun t _ h => i1 t h⟩,this.2⟩
theorem RS.next (g : PG n progs) {st s : List Int} {w : Nat} (r : RS n progs st) (hw : w < progs.length) (e : aZ progs st w = some s) : RS n progs s ∧ iG progs s = iG progs st + 1 := by
 have h1 := r.one.next g.good r.ok hw g.p4 g.n4 g.th g.ok e
 have h2 := kT g.good r.ok hw g.p4 e
 obtain ⟨x,t,d,_,ht,htn,_,_,_,_,es⟩ := oV g.good r.ok hw g.th e
 have p4 := g.p4
 have n4 := g.n4
 refine ⟨⟨h2,h1.1,fun i a b => ?_,fun i a b => ?_⟩,h1.2⟩
 · rw [es,cB (by omega),cB (by omega)]; exact r.hi i a b
 · rw [es,cB (by omega),cB (by omega)]; exact r.ho i a b
theorem RS.ext (g : PG n progs) {a b : List Int} (ra : RS n progs a) (rb : RS n progs b) (e : a.take progs.length = b.take progs.length) : a = b := by
 have la := ra.ok.len
 have lb := rb.ok.len
 have p4 := g.p4
 have n4 := g.n4
 have hd : ∀ i,i < progs.length → a.getD i 0 = b.getD i 0 := fun i hi => by
  rw [← dC hi,e,dC hi]
 have hh : ∀ w t,w < progs.length → iE progs a w t = iE progs b w t := fun w t hw => by rw [iE,iE,hd w hw]
 have hx : ∀ i,i < 8 → a.getD i 0 = b.getD i 0 := fun i hi => by
  by_cases h1 : i < progs.length
  · exact hd i h1
  · by_cases h2 : i < 4
    · rw [ra.hi i (by omega) h2,rb.hi i (by omega) h2]
    · obtain ⟨t,rfl⟩ : ∃ t,i = 4 + t := ⟨i - 4,by omega⟩
      by_cases h3 : t < n
      · rcases ra.one.rng t h3 with h4 | ⟨w,hw,h4⟩
        · rcases rb.one.rng t h3 with h5 | ⟨w,hw,h5⟩
          · rw [h4,h5]
          · have := (rb.one.own t h3 w hw).2 h5
            rw [← hh w t hw] at this
            have := (ra.one.own t h3 w hw).1 this
            rw [this,h5]
        · have := (ra.one.own t h3 w hw).2 h4
          rw [hh w t hw] at this
          rw [h4,(rb.one.own t h3 w hw).1 this]
      · rw [ra.ho t (by omega) (by omega),rb.ho t (by omega) (by omega)]
 apply List.ext_getElem (by omega)
 intro i h1 h2
 have := hx i (by omega)
 rwa [getD_at h1,getD_at h2] at this
theorem wJ : ∀ {l : List Int},(∀ x ∈ l,x ≤ 6) → l.sum ≤ 6 * l.length
 | [],_ => by simp
 | x :: l,h => by
  have := wJ (l := l) fun y hy => h y (by simp [hy])
  have := h x (by simp)
  simp only [List.sum_cons,List.length_cons]; omega
theorem RS.six (g : PG n progs) {a : List Int} (ra : RS n progs a) {i : Nat} (hi : i < progs.length) : 0 ≤ a.getD i 0 ∧ a.getD i 0 ≤ 6 := by
 have h1 := ra.ok.done i hi
 rw [getD_at hi] at h1
 have := (g.good _ (qG hi)).1
 omega
theorem RS.sum24 (g : PG n progs) {a : List Int} (ra : RS n progs a) : iG progs a ≤ 24 := by
 have p4 := g.p4
 have := wJ (l := a.take progs.length) fun x hx => by
  obtain ⟨i,hi,rfl⟩ := List.getElem_of_mem hx
  rw [List.length_take] at hi
  have := ra.six g (i := i) (by omega)
  rw [← dC (p := progs.length) (by omega),getD_at (by rw [List.length_take]; omega)] at this
  exact this.2
 rw [List.length_take] at this
 have hl := ra.ok.len
 rw [iG]; omega
def lA : List Int → Nat
 | [] => 0
 | x :: l => x.toNat + 7 * lA l
theorem tR : ∀ {l : List Int},(∀ x ∈ l,0 ≤ x ∧ x ≤ 6) → lA l < 7 ^ l.length
 | [],_ => by simp [lA]
 | x :: l,h => by
  have := tR (l := l) fun y hy => h y (by simp [hy])
  have := h x (by simp)
  rw [lA,List.length_cons,Nat.pow_succ]; omega
theorem pM : ∀ {a b : List Int},a.length = b.length → (∀ x ∈ a,0 ≤ x ∧ x ≤ 6) → (∀ x ∈ b,0 ≤ x ∧ x ≤ 6) → lA a = lA b → a = b
 | [],[],_,_,_,_ => rfl
 | x :: a,y :: b,hl,ha,hb,e => by
  rw [lA,lA] at e
  have h1 := ha x (by simp)
  have h2 := hb y (by simp)
  have := pM (a := a) (b := b) (by simpa using hl) (fun z hz => ha z (by simp [hz])) (fun z hz => hb z (by simp [hz])) (by omega)
  rw [this]
  congr 1
  rw [this] at e
  omega
theorem gA : ∀ {a b : List Nat},a.Nodup → (∀ x ∈ a,x ∈ b) → a.length ≤ b.length
 | [],b,_,_ => by simp
 | x :: a,b,h,s => by
  have hx := s x (by simp)
  have := gA (a := a) (b := b.erase x) (List.nodup_cons.1 h).2 fun y hy => by
   have hne : y ≠ x := fun e => (List.nodup_cons.1 h).1 (e ▸ hy)
   exact (List.mem_erase_of_ne hne).2 (s y (by simp [hy]))
  rw [List.length_erase_of_mem hx] at this
  have := List.length_pos_of_mem hx
  simp only [List.length_cons]; omega
theorem oU {α β : Type} {f : α → β} : ∀ {l : List α},(∀ x ∈ l,∀ y ∈ l,f x = f y → x = y) → l.Nodup → (l.map f).Nodup
 | [],_,_ => by simp
 | a :: l,hf,hn => by
  obtain ⟨h1,h2⟩ := List.nodup_cons.1 hn
  rw [List.map_cons,List.nodup_cons]
  refine ⟨fun hm => ?_,oU (fun x hx y hy => hf x (by simp [hx]) y (by simp [hy])) h2⟩
  obtain ⟨b,hb,e⟩ := List.mem_map.1 hm
  rw [hf b (by simp [hb]) a (by simp) e] at hb
  exact h1 hb
theorem vO (g : PG n progs) {l : List (List Int)} (hn : l.Nodup) (hr : ∀ s ∈ l,RS n progs s) : l.length ≤ 2401 := by
 have p4 := g.p4
 have hen : ∀ s ∈ l,∀ x ∈ s.take progs.length,0 ≤ x ∧ x ≤ 6 := fun s hs x hx => by
  have r := hr s hs
  have hl := r.ok.len
  obtain ⟨i,hi,rfl⟩ := List.getElem_of_mem hx
  rw [List.length_take] at hi
  have := r.six g (i := i) (by omega)
  rwa [← dC (p := progs.length) (by omega),getD_at (by rw [List.length_take]; omega)] at this
 have hlen : ∀ s ∈ l,(s.take progs.length).length = progs.length := fun s hs => by
  have hl := (hr s hs).ok.len
  rw [List.length_take]; omega
 have := gA (a := l.map fun s => lA (s.take progs.length)) (b := List.range (7 ^ 4)) (oU (fun x hx y hy e =>
  (hr x hx).ext g (hr y hy) (pM (by rw [hlen x hx,hlen y hy]) (hen x hx) (hen y hy) e)) hn) fun x hx => by
  obtain ⟨s,hs,rfl⟩ := List.mem_map.1 hx
  have := tR (hen s hs)
  rw [hlen s hs] at this
  have := Nat.pow_le_pow_right (show 0 < 7 by omega) p4
  rw [List.mem_range]; omega
 rw [List.length_map,List.length_range] at this
 exact this
end
def eM (progs : List (List aF)) (w : bI) (x : List (List Int) × List bI) (who : Nat) : List (List Int) × List bI :=
 match aZ progs w.1 who with
 | none => x
 | some s => if s ∈ x.1 then x else (x.1 ++ [s],x.2 ++ [(s,w.2 ++ [(who : Int)])])
def cY (progs : List (List aF)) (w : bI) (j : Nat) (x : List (List Int) × List bI) : List (List Int) × List bI := (List.range j).foldl (eM progs w) x
theorem aBm {progs : List (List aF)} {w : bI} {x : List (List Int) × List bI} : cY progs w 0 x = x := rfl
theorem kP {progs : List (List aF)} {w : bI} {j : Nat} {x : List (List Int) × List bI} : cY progs w (j + 1) x = eM progs w (cY progs w j x) j := by
 rw [cY,List.range_succ,List.foldl_append]; rfl
def bU (progs : List (List aF)) (st : List Int) : Bool := ((List.range progs.length).all fun w => (aZ progs st w).isNone) && (List.range progs.length).any fun w => (stepS progs st w).isSome
def bfs (progs : List (List aF)) : Nat → List bI → List (List Int) → Option bI
 | 0,_,_ => none
 | _ + 1,[],_ => none
 | k + 1,w :: q,seen => if bU progs w.1 then some w else bfs progs k (cY progs w progs.length (seen,q)).2 (cY progs w progs.length (seen,q)).1
def mu (q : List bI) : Nat := (q.map fun w => 5 ^ (25 - w.2.length)).sum
theorem mu_app {a b : List bI} : mu (a ++ b) = mu a + mu b := by simp [mu]
theorem mu_one {w : bI} : mu [w] = 5 ^ (25 - w.2.length) := by simp [mu]
theorem qR {w : bI} {q : List bI} : mu (w :: q) = 5 ^ (25 - w.2.length) + mu q := by simp [mu]
def goS (progs : List (List aF)) : List Int → List Int → Option (List Int)
 | st,[] => some st
 | st,w :: r => match aZ progs st w.toNat with
  | none => none
  | some s => goS progs s r
theorem yO {progs : List (List aF)} : ∀ {a b st : List Int},goS progs st (a ++ b) = (goS progs st a).bind fun s => goS progs s b
 | [],b,st => rfl
 | x :: a,b,st => by
  rw [List.cons_append,goS,goS]
  cases aZ progs st x.toNat with
  | none => rfl
  | some s => exact yO
def uO (n : Nat) (l : List Int) : Prop := ∀ x ∈ l,0 ≤ x ∧ x < (n : Int)
structure gE (n : Nat) (progs : List (List aF)) (w : bI) : Prop where
 rs : RS n progs w.1
 go : goS progs bE w.2 = some w.1
 val : uO progs.length w.2
 sum : iG progs w.1 = w.2.length
structure QI (n : Nat) (progs : List (List aF)) (q : List bI) (seen : List (List Int)) : Prop where
 way : ∀ w ∈ q,gE n progs w
 nd : seen.Nodup
 sn : ∀ s ∈ seen,RS n progs s
 qs : ∀ w ∈ q,w.1 ∈ seen
 qn : (q.map (·.1)).Nodup
section
variable {n : Nat} {progs : List (List aF)}
theorem gE.len24 (g : PG n progs) {w : bI} (a : gE n progs w) : w.2.length ≤ 24 := by
 have := a.rs.sum24 g
 rw [a.sum] at this; omega
theorem gE.start (g : PG n progs) : gE n progs (bE,[]) := ⟨(RS.start g).1,rfl,fun x hx => by simp at hx,(RS.start g).2⟩
theorem gE.next (g : PG n progs) {w : bI} {s : List Int} {who : Nat} (a : gE n progs w) (hw : who < progs.length) (e : aZ progs w.1 who = some s) : gE n progs (s,w.2 ++ [(who : Int)]) := by
 obtain ⟨h1,h2⟩ := a.rs.next g hw e
 refine ⟨h1,?_,fun x hx => ?_,?_⟩
 · simp only
   rw [yO,a.go,Option.bind_some,goS,Int.toNat_natCast,e]; rfl
 · rcases List.mem_append.1 hx with hx | hx
   · exact a.val x hx
   · simp at hx; omega
 · simp only [List.length_append,List.length_singleton]; rw [h2,a.sum]; omega
theorem QI.start (g : PG n progs) : QI n progs [(bE,[])] [bE] := by
 refine ⟨fun w hw => ?_,by simp,fun s hs => ?_,fun w hw => ?_,by simp⟩
 · simp at hw; subst hw; exact gE.start g
 · simp at hs; subst hs; exact (RS.start g).1
 · simp at hw; subst hw; simp
theorem QI.tail {w : bI} {q : List bI} {seen : List (List Int)} (a : QI n progs (w :: q) seen) : QI n progs q seen :=
 ⟨fun x hx => a.way x (by simp [hx]),a.nd,a.sn,fun x hx => a.qs x (by simp [hx]),by have := a.qn; rw [List.map_cons,List.nodup_cons] at this; exact this.2⟩
theorem QI.push (g : PG n progs) {w : bI} {x : List (List Int) × List bI} {who : Nat} (a : QI n progs x.2 x.1) (hw : gE n progs w) (hl : who < progs.length) : QI n progs (eM progs w x who).2 (eM progs w x who).1 := by
 rw [eM]
 cases e : aZ progs w.1 who with
 | none => exact a
 | some s =>
  simp only
  split
  · exact a
  · rename_i hs
    have h1 := hw.next g hl e
    refine ⟨fun y hy => ?_,?_,fun y hy => ?_,fun y hy => ?_,?_⟩
    · rcases List.mem_append.1 hy with hy | hy
      · exact a.way y hy
      · simp at hy; subst hy; exact h1
    · rw [List.nodup_append]
      exact ⟨a.nd,by simp,fun y hy z hz e2 => by simp at hz; subst hz; subst e2; exact hs hy⟩
    · rcases List.mem_append.1 hy with hy | hy
      · exact a.sn y hy
      · simp at hy; subst hy; exact h1.rs
    · rcases List.mem_append.1 hy with hy | hy
      · exact List.mem_append_left _ (a.qs y hy)
      · simp at hy; subst hy; simp
    · rw [List.map_append,List.nodup_append]
      refine ⟨a.qn,by simp,fun y hy z hz e => ?_⟩
      simp at hz
      obtain ⟨v,hv,rfl⟩ := List.mem_map.1 hy
      rw [hz] at e
      have := a.qs v hv
      rw [e] at this
      exact hs this
theorem QI.pushes (g : PG n progs) {w : bI} {x : List (List Int) × List bI} (a : QI n progs x.2 x.1) (hw : gE n progs w) : ∀ {j : Nat},j ≤ progs.length → QI n progs (cY progs w j x).2 (cY progs w j x).1
 | 0,_ => a
 | j + 1,h => by
  rw [kP]
  exact (QI.pushes g a hw (j := j) (by omega)).push g hw (by omega)
theorem QI.q_len (g : PG n progs) {q : List bI} {seen : List (List Int)} (a : QI n progs q seen) : q.length ≤ 2401 := by
 have := vO g (l := q.map (·.1)) a.qn fun s hs => by
  obtain ⟨w,hw,rfl⟩ := List.mem_map.1 hs
  exact (a.way w hw).rs
 simpa using this
theorem aDD {w : bI} {x : List (List Int) × List bI} {who : Nat} (h24 : w.2.length ≤ 24) : mu (eM progs w x who).2 ≤ mu x.2 + 5 ^ (24 - w.2.length) := by
 rw [eM]
 cases e : aZ progs w.1 who with
 | none => exact Nat.le_add_right _ _
 | some s =>
  simp only
  split
  · exact Nat.le_add_right _ _
  · rw [mu_app,mu_one,List.length_append,List.length_singleton,show 25 - (w.2.length + 1) = 24 - w.2.length by omega]; exact Nat.le_refl _
theorem oW {w : bI} {x : List (List Int) × List bI} (h24 : w.2.length ≤ 24) : ∀ {j : Nat},mu (cY progs w j x).2 ≤ mu x.2 + j * 5 ^ (24 - w.2.length)
 | 0 => by rw [aBm]; omega
 | j + 1 => by
  rw [kP,Nat.succ_mul]
  have h1 := aDD (progs := progs) (w := w) (x := cY progs w j x) (who := j) h24
  have h2 := oW (x := x) h24 (j := j)
  omega
theorem qQ (g : PG n progs) {w : bI} {q : List bI} {seen : List (List Int)} (h24 : w.2.length ≤ 24) : mu (cY progs w progs.length (seen,q)).2 < mu (w :: q) := by
 have h1 := oW (progs := progs) (x := (seen,q)) h24 (j := progs.length)
 have p4 := g.p4
 rw [qR,show 25 - w.2.length = (24 - w.2.length) + 1 by omega,Nat.pow_succ]
 have h2 : 0 < 5 ^ (24 - w.2.length) := Nat.pow_pos (by omega)
 have h3 : progs.length * 5 ^ (24 - w.2.length) ≤ 4 * 5 ^ (24 - w.2.length) := Nat.mul_le_mul_right _ p4
 simp only at h1
 omega
end
def jL (st : List Int) (s : aF) : Nat := (st.getD (4 + s.thing.toNat) 0).toNat
def dP (progs : List (List aF)) (st : List Int) : Nat → Nat → List Nat → List Nat
 | 0,_,out => out
 | k + 1,who,out => if who ∈ out then out ++ [who] else match stepS progs st who with
  | none => out ++ [who]
  | some s => dP progs st k (jL st s) (out ++ [who])
section
variable {n : Nat} {progs : List (List aF)} {st : List Int}
theorem dN : bU progs st = true ↔ (∀ w,w < progs.length → aZ progs st w = none) ∧ ∃ w,w < progs.length ∧ (stepS progs st w).isSome = true := by
 rw [bU,Bool.and_eq_true,List.all_eq_true,List.any_eq_true]
 constructor
 · rintro ⟨h1,w,h2,h3⟩
   exact ⟨fun w hw => by simpa using h1 w (List.mem_range.2 hw),w,List.mem_range.1 h2,h3⟩
 · rintro ⟨h1,w,h2,h3⟩
   exact ⟨fun w hw => by simpa using h1 w (List.mem_range.1 hw),w,List.mem_range.2 h2,h3⟩
theorem eS (g : PG n progs) (r : RS n progs st) (hs : ∀ w,w < progs.length → aZ progs st w = none) {w : Nat} {s : aF} (hw : w < progs.length) (e : stepS progs st w = some s) :
 s.kind = 1 ∧ (∃ t : Nat,s.thing = t ∧ t < n) ∧ jL st s < progs.length ∧ st.getD (4 + s.thing.toNat) 0 = (jL st s : Int) := by
 have h1 := hs w hw
 rw [aZ,e] at h1
 simp only at h1
 split at h1
 · rename_i hc
   have hsm : s ∈ progs[w] := by rw [stepS,getD_at hw] at e; exact List.mem_of_getElem? e
   have h2 := ((g.good _ (qG hw)).2 s hsm).1
   have h3 := g.th _ (qG hw) s hsm
   obtain ⟨t,ht⟩ : ∃ t : Nat,s.thing = t := ⟨s.thing.toNat,by omega⟩
   have ht2 : s.thing.toNat = t := by omega
   rw [ht2] at hc
   rcases r.one.rng t (by omega) with h4 | ⟨u,hu,h4⟩
   · exact absurd h4 hc.2
   · refine ⟨hc.1,⟨t,ht,by omega⟩,?_,?_⟩
     · rw [jL,ht2,h4]; simpa using hu
     · rw [jL,ht2,h4]; rfl
 · cases h1
def linkS (progs : List (List aF)) (st : List Int) (a b : Nat) : Prop := ∃ s,stepS progs st a = some s ∧ jL st s = b
structure ChI (progs : List (List aF)) (st : List Int) (l : List Nat) : Prop where
 lt : ∀ x ∈ l,x < progs.length
 ln : ∀ i a b,l[i]? = some a → l[i + 1]? = some b → linkS progs st a b
structure ChR (progs : List (List aF)) (st : List Int) (c : List Nat) : Prop where
 inv : ChI progs st c
 last : ∃ l x,c = l ++ [x] ∧ (x ∈ l ∨ stepS progs st x = none)
theorem ChI.more {out : List Nat} {who x : Nat} (a : ChI progs st (out ++ [who])) (hx : x < progs.length) (hl : linkS progs st who x) : ChI progs st (out ++ [who] ++ [x]) := by
 refine ⟨fun y hy => ?_,fun i u v h1 h2 => ?_⟩
 · rcases List.mem_append.1 hy with hy | hy
   · exact a.lt y hy
   · simp at hy; omega
 · have hi := (List.getElem?_eq_some_iff.1 h2).1
   simp only [List.length_append,List.length_singleton] at hi
   by_cases q : i + 1 < (out ++ [who]).length
   · rw [qH (by omega)] at h1
     rw [qH q] at h2
     exact a.ln i u v h1 h2
   · simp only [List.length_append,List.length_singleton] at q
     obtain rfl : i = out.length := by omega
     rw [qH (by simp),qI (Nat.le_refl _),Nat.sub_self] at h1
     rw [qI (by simp)] at h2
     simp at h1 h2
     rw [← h1,← h2]; exact hl
theorem nY (g : PG n progs) (r : RS n progs st) (hs : ∀ w,w < progs.length → aZ progs st w = none) : ∀ {k : Nat} {who : Nat} {out : List Nat},out.Nodup → ChI progs st (out ++ [who]) → progs.length + 1 ≤ out.length + k →
 ChR progs st (dP progs st k who out) ∧ out.length + 1 ≤ (dP progs st k who out).length ∧ (who ∉ out → (stepS progs st who).isSome = true → out.length + 2 ≤ (dP progs st k who out).length)
 | 0,who,out,hn,hc,hk => by
  have := gA (a := out) (b := List.range progs.length) hn fun x hx => List.mem_range.2 (hc.lt x (by simp [hx]))
  rw [List.length_range] at this
  omega
 | k + 1,who,out,hn,hc,hk => by
  rw [dP]
  split
  · rename_i hm
    exact ⟨⟨hc,out,who,rfl,.inl hm⟩,by simp,fun h => absurd hm h⟩
  · rename_i hm
    have hwho := hc.lt who (by simp)
    cases e : stepS progs st who with
    | none => exact ⟨⟨hc,out,who,rfl,.inr e⟩,by simp,fun _ h => by cases h⟩
    | some s =>
     obtain ⟨_,_,h3,_⟩ := eS g r hs hwho e
     have := nY g r hs (k := k) (who := jL st s) (out := out ++ [who]) (by
      rw [List.nodup_append]; exact ⟨hn,by simp,fun y hy z hz e2 => by simp at hz; subst hz; subst e2; exact hm hy⟩) (hc.more h3 ⟨s,e,rfl⟩) (by simp only [List.length_append,List.length_singleton]; omega)
     simp only [List.length_append,List.length_singleton] at this
     exact ⟨this.1,by simp only; omega,fun _ _ => by simp only; omega⟩
def sM (n : Nat) (x : List aF) (k : Nat) : Bool := match x[k]? with
 | none => true
 | some s => decide (s.kind ≠ 1) || (List.range n).all fun t => decide ((t : Int) < s.thing) || !eN (fun _ => false) (x.take k) t
def sL (n : Nat) (x : List aF) : Bool := ((List.range x.length).all (sM n x)) && (List.range n).all fun t => !eN (fun _ => false) x t
def sO (n : Nat) (progs : List (List aF)) : Bool := progs.all (sL n)
theorem aAk (g : PG n progs) (r : RS n progs st) (ho : sO n progs = true) : bU progs st = false := by
 refine Bool.eq_false_iff.2 fun hs => ?_
 rw [dN] at hs
 obtain ⟨hs,w,hw,hsome⟩ := hs
 have key : ∀ (m t : Nat),n ≤ t + m → ∀ w s,w < progs.length → stepS progs st w = some s → s.thing = t → t < n → False := by
  intro m
  induction m with
  | zero => intro t h w s _ _ _ _; omega
  | succ m ih =>
   intro t h w s hw e ht htn
   obtain ⟨_,_,h3,h4⟩ := eS g r hs hw e
   obtain ⟨u,hu⟩ : ∃ u,u = jL st s := ⟨_,rfl⟩
   rw [← hu] at h3 h4
   have ht2 : s.thing.toNat = t := by omega
   rw [ht2] at h4
   have hb := (r.one.own t htn u h3).2 h4
   rw [iE,getD_at h3] at hb
   have hx := List.all_eq_true.1 ho _ (qG h3)
   rw [sL,Bool.and_eq_true,List.all_eq_true,List.all_eq_true] at hx
   obtain ⟨x1,x2⟩ := hx
   obtain ⟨d1,d2⟩ := r.ok.done u h3
   rw [getD_at h3] at d2
   cases e2 : stepS progs st u with
   | none =>
    rw [stepS,getD_at h3,List.getElem?_eq_none_iff] at e2
    rw [List.take_of_length_le e2] at hb
    have := x2 t (List.mem_range.2 htn)
    rw [hb] at this; cases this
   | some s2 =>
    obtain ⟨k1,⟨t2,ht2,htn2⟩,_,_⟩ := eS g r hs h3 e2
    rw [stepS,getD_at h3] at e2
    have hlt := (List.getElem?_eq_some_iff.1 e2).1
    have := x1 _ (List.mem_range.2 hlt)
    rw [sM,e2] at this
    simp only [k1,ne_eq,not_true_eq_false,decide_false,Bool.false_or,List.all_eq_true] at this
    have := this t (List.mem_range.2 htn)
    rw [hb,Bool.not_true,Bool.or_false,decide_eq_true_eq] at this
    exact ih t2 (by omega) u s2 h3 (by rw [stepS,getD_at h3]; exact e2) ht2 htn2
 cases e : stepS progs st w with
 | none => rw [e] at hsome; cases hsome
 | some s =>
  obtain ⟨_,⟨t,ht,htn⟩,_,_⟩ := eS g r hs hw e
  exact key n t (by omega) w s hw e ht htn
end
end Go.Proofs.Ab
namespace Go.Proofs.Ab
open Go Go.Proofs
variable {w0 : World} {h : aA}
attribute [local irreducible] ACall bA bW aY cP rvC lp rg dr ex un rv
abbrev k8 : Bool × List Bool := (true,[true,true,true,true,true,true,true,true])
theorem yS : ∀ (a b : List Int),a.length = b.length → bX (List.replicate a.length true) (aM a) (aM b) = some (a == b)
 | [],[],_ => rfl
 | x :: xs,y :: ys,e => by
  have ih := yS xs ys (by simpa using e)
  simp only [aM,List.map_cons,List.length_cons,List.replicate_succ,bX,ceq] at ih ⊢
  rw [ih]
  by_cases h : x = y
  · subst h; simp
  · have h2 : (x == y) = false := beq_eq_false_iff_ne.2 h
    have h3 : (x :: xs == y :: ys) = false := by rw [List.cons_beq_cons,h2]; rfl
    rw [h2,h3]; simp
theorem aCy {a b : List Int} (ha : a.length = 8) (hb : b.length = 8) : keq k8 (.agg (aM a)) (.agg (aM b)) = some (decide (a = b)) := by
 have := yS a b (by omega)
 rw [ha] at this
 simp only [keq,k8,if_true]
 refine Eq.trans this ?_
 congr 1
 by_cases e : a = b <;> simp [e]
def fY (M : List (List Int)) : List (AV × AV) := M.map fun m => (.agg (aM m),.bool true)
theorem lL {K : List Int} (hK : K.length = 8) : ∀ (M : List (List Int)) (i : Nat),(∀ m ∈ M,m.length = 8) →
 (K ∉ M ∧ dI k8 (.agg (aM K)) (fY M) i = some none) ∨ K ∈ M ∧ ∃ j : Nat,dI k8 (.agg (aM K)) (fY M) i = some (some (j,.bool true))
 | [],i,_ => .inl ⟨by simp,rfl⟩
 | K' :: M,i,hM => by
  have hK' := hM _ List.mem_cons_self
  have ih := lL hK M (i + 1) fun m hm => hM m (List.mem_cons_of_mem _ hm)
  simp only [fY,List.map_cons,dI] at ih ⊢
  rw [aCy hK hK']
  by_cases e : K = K'
  · subst e
    exact .inr ⟨by simp,i,by simp⟩
  · simp only [e,decide_false]
    rcases ih with ⟨h0,h1⟩ | ⟨h0,j,h1⟩
    · exact .inl ⟨by simp [e,h0],h1⟩
    · exact .inr ⟨by simp [h0],j,h1⟩
theorem aAm {H : aA} {sb : Nat} {M : List (List Int)} {K : List Int} (hd : H[sb]? = some (some (.map (fY M)))) (hK : K.length = 8) (hM : ∀ m ∈ M,m.length = 8) :
 lV H k8 (.bool false) false (.map sb) (.agg (aM K)) = some (.bool (decide (K ∈ M))) := by
 simp only [lV,hd]
 rw [if_neg (by rw [aCy hK hK]; simp)]
 rcases lL hK M 0 hM with ⟨h0,h1⟩ | ⟨h0,j,h1⟩
 · rw [h1]; simp [h0]
 · rw [h1]; simp [h0]
theorem sF {H : aA} {sb : Nat} {M : List (List Int)} {K : List Int} (hd : H[sb]? = some (some (.map (fY M)))) (hK : K.length = 8) (hM : ∀ m ∈ M,m.length = 8) (hn : K ∉ M) :
 jJ H k8 (.map sb) (.agg (aM K)) (.bool true) = some (.undef,H.set sb (some (.map (fY (M ++ [K]))))) := by
 simp only [jJ,hd]
 rw [if_neg (by rw [aCy hK hK]; simp)]
 rcases lL hK M 0 hM with ⟨h0,h1⟩ | ⟨h0,_⟩
 · rw [h1]; simp [fY]
 · exact absurd h0 hn
theorem aE.setN {B H : aA} {i : Nat} {x : Option Blk} (s : aE B H) (f : ∀ b,B[i]? ≠ some (some b)) : aE B (H.set i x) := ⟨by simpa using s.1,fun j b e => by
 by_cases q : i = j
 · subst q; exact absurd e (f b)
 · rw [qB q]; exact s.2 j b e⟩
structure QV (B H : aA) (qb : Nat) (qv : AV) (rows : List (List AV)) : Prop where
 sub : aE B H
 box : H[qb]? = some (some (.row [qv]))
 nb : ∀ b,B[qb]? ≠ some (some b)
 nine : ∀ r ∈ rows,r.length = 9
 val : (qv = .nilS ∧ rows = []) ∨ ∃ io off c,qv = .sl (.own io off) rows.length 9 false ∧ io ≠ qb ∧ H[io]? = some (some (.row c)) ∧ c.drop off = rows.flatten ∧ off ≤ c.length ∧ ∀ b,B[io]? ≠ some (some b)
section
variable {B H : aA} {qb : Nat} {qv : AV} {rows : List (List AV)}
theorem QV.app {L : aA} (a : QV B H qb qv rows) : QV B (H ++ L) qb qv rows := by
 refine ⟨a.sub.app,aB a.box,a.nb,a.nine,?_⟩
 rcases a.val with h1 | ⟨io,off,c,h1,h2,h3,h4⟩
 · exact .inl h1
 · exact .inr ⟨io,off,c,h1,h2,aB h3,h4⟩
theorem QV.len (a : QV B H qb qv rows) : fF qv = some (.int .i64 rows.length) := by
 rcases a.val with ⟨rfl,rfl⟩ | ⟨io,off,c,rfl,_⟩ <;> rfl
theorem QV.base {C : aA} (a : QV B H qb qv rows) (s : aE C H) (hq : ∀ b,C[qb]? ≠ some (some b)) (hi : ∀ io off n,qv = .sl (.own io off) n 9 false → ∀ b,C[io]? ≠ some (some b)) : QV C H qb qv rows := by
 refine ⟨s,a.box,hq,a.nine,?_⟩
 rcases a.val with h1 | ⟨io,off,c,h1,h2,h3,h4,h5,h6⟩
 · exact .inl h1
 · exact .inr ⟨io,off,c,h1,h2,h3,h4,h5,hi _ _ _ h1⟩
theorem yQ : ∀ {rows : List (List AV)},(∀ r ∈ rows,r.length = 9) → rows.flatten.length = rows.length * 9
 | [],_ => rfl
 | r :: l,h => by
  have := yQ (rows := l) fun x hx => h x (by simp [hx])
  have := h r (by simp)
  simp only [List.flatten_cons,List.length_append,List.length_cons,Nat.succ_mul]; omega
theorem QV.set {i : Nat} {x : Option Blk} (a : QV B H qb qv rows) (hB : ∀ b,B[i]? ≠ some (some b)) (hq : qb ≠ i) (hi : ∀ io off n,qv = .sl (.own io off) n 9 false → io ≠ i) : QV B (H.set i x) qb qv rows := by
 refine ⟨a.sub.setN hB,by rw [qB (fun e => hq e.symm)]; exact a.box,a.nb,a.nine,?_⟩
 rcases a.val with h1 | ⟨io,off,c,h1,h2,h3,h4⟩
 · exact .inl h1
 · exact .inr ⟨io,off,c,h1,h2,by rw [qB (fun e => hi _ _ _ h1 e.symm)]; exact h3,h4⟩
theorem put_c {x : List AV} (a : QV B H qb qv rows) (hx : x.length = 9) (ho : x.all one = true) (hn : rows.length ≤ 5000) :
 ACall Tryz.prog w0 86 [.ptr (.own qb 0),.agg x] H fun v H' => v = .tup [] ∧ ∃ qv',QV B H' qb qv' (rows ++ [x]) ∧ ∀ io off n,qv' = .sl (.own io off) n 9 false → H.length ≤ io := by
 refine bK aV xH aBH aBG (qE rfl) fun hb ha => bF ?_
 have e1 : ∀ L,(H ++ L)[qb]? = some (some (.row [qv])) := fun L => aB a.box
 have t9 : x.take 9 = x := List.take_of_length_le (by omega)
 have hqH := aK a.box
 have hr1 : rdn w0 (H ++ [some (Blk.row x),some (Blk.row x)]) (.own (H.length + 1) 0) (1 * 9) = some x := by
  simp only [rdn]
  rw [qI (by omega),show H.length + 1 - H.length = 1 by omega]
  simp [hx,t9]
 have nine : ∀ r ∈ rows ++ [x],r.length = 9 := fun r hr => by
  rcases List.mem_append.1 hr with hr | hr
  · exact a.nine r hr
  · simp at hr; subst hr; exact hx
 have fin : ∀ (K : aA) (old : List AV) (m : Nat),H.length ≤ m → aE B K → K[qb]? = some (some (.row [qv])) → K[m]? = some (some (.row (rows.flatten ++ x))) → m ≠ qb →
  ∃ qv',QV B (K.set qb (some (.row [.sl (.own m 0) (rows.length + 1) 9 false]))) qb qv' (rows ++ [x]) ∧ ∀ io off n,qv' = .sl (.own io off) n 9 false → H.length ≤ io := fun K old m hm hs hk hkm hmq => by
  refine ⟨.sl (.own m 0) (rows.length + 1) 9 false,⟨hs.setN a.nb,by rw [qF (aK hk)],a.nb,nine,.inr ⟨m,0,_,by simp,hmq,by rw [qB (fun e => hmq e.symm)]; exact hkm,by simp,Nat.zero_le _,fun b e => ?_⟩⟩,fun io off n e => ?_⟩
  · have := aK e; have := a.sub.1; omega
  · cases e; exact hm
 rcases a.val with ⟨rfl,rfl⟩ | ⟨io,off,c,rfl,i1,i2,i3,i4,i5⟩
 · have hap : cT w0 (H ++ [some (Blk.row x),some (Blk.row x)]) 9 88 .nilS (.sl (.own (H.length + 1) 0) 1 9 true) = some (.sl (.own (H.length + 2) 0) 1 9 false,H ++ [some (Blk.row x),some (Blk.row x),some (Blk.row x)]) := by
    simp only [cT,eL,eU,if_true,hr1,Option.map_some,Option.bind_some]
    rw [if_neg (by omega),if_pos ⟨by omega,ho⟩]
    simp [fK]
   simp only [go_sem,mf86,ho,hx,t9,e1,List.append_nil,hap]
   exact fin _ [] (H.length + 2) (by omega) a.sub.app (e1 _) (by rw [qI (by omega),show H.length + 2 - H.length = 2 by omega]; rfl) (by omega)
 · have hlen9 : c.length = off + rows.length * 9 := by
    have := congrArg List.length i3
    rw [List.length_drop,yQ a.nine] at this; omega
   have hioH := aK i2
   have hr2 : rdn w0 (H ++ [some (Blk.row x),some (Blk.row x)]) (.own io off) (rows.length * 9) = some rows.flatten := by
    simp only [rdn]
    rw [aB i2]
    simp only [i3]
    rw [if_pos (by omega),List.take_of_length_le (by rw [yQ a.nine]; exact Nat.le_refl _)]
   have hap : cT w0 (H ++ [some (Blk.row x),some (Blk.row x)]) 9 88 (.sl (.own io off) rows.length 9 false) (.sl (.own (H.length + 1) 0) 1 9 true) = some (.sl (.own (H.length + 2) 0) (rows.length + 1) 9 false,(H ++ [some (Blk.row x),some (Blk.row x)]).set io none ++ [some (.row (rows.flatten ++ x))]) := by
    simp only [cT,eL,eU,if_true,hr1,Option.map_some,Option.bind_some]
    rw [if_neg (by omega),if_pos ⟨trivial,Nat.le_trans (Nat.mul_le_mul (show rows.length + 1 ≤ 5001 by omega) (Nat.le_refl 89)) (by decide),ho⟩]
    simp only [Bool.false_eq_true,if_false,hr2,Option.bind_some]
    simp
   obtain ⟨K,hK⟩ : ∃ K,K = (H ++ [some (Blk.row x),some (Blk.row x)]).set io none ++ [some (.row (rows.flatten ++ x))] := ⟨_,rfl⟩
   have k1 : K[qb]? = some (some (.row [.sl (.own io off) rows.length 9 false])) := by
    rw [hK]; exact aB (by rw [qB i1]; exact e1 _)
   rw [← hK] at hap
   simp only [go_sem,mf86,ho,hx,t9,e1,List.append_nil,hap,k1]
   exact fin K [] (H.length + 2) (by omega) (hK ▸ (a.sub.app.setN i5).app) k1 (by rw [hK,qI (by simp)]; simp) (by omega)
def aAS : List AV := aM [0,0,0,0,0,0,0,0] ++ [.nilS]
theorem uP (a : QV B H qb qv rows) (ho : ∀ r ∈ rows,r.all one = true) :
 ACall Tryz.prog w0 87 [.ptr (.own qb 0)] H fun v H' => match rows with
  | [] => v = .tup [.agg aAS,.bool false] ∧ QV B H' qb qv []
  | x :: r => v = .tup [.agg x,.bool true] ∧ ∃ qv',QV B H' qb qv' r ∧ ∀ io off n,qv' = .sl (.own io off) n 9 false → ∃ o n,qv = .sl (.own io o) n 9 false := by
 refine bK aV xG aBF aBE (qE rfl) fun hb ha => bF ?_
 have e1 : ∀ L,(H ++ L)[qb]? = some (some (.row [qv])) := fun L => aB a.box
 have hlen := a.len
 match rows,a,ho,hlen with
 | [],a,ho,hlen =>
  simp only [go_sem,mf87,e1,hlen]
  exact ⟨fun _ => ⟨rfl,a.app⟩,fun e => absurd rfl e⟩
 | x :: r,a,ho,hlen =>
  rcases a.val with ⟨_,h1⟩ | ⟨io,off,c,rfl,i1,i2,i3,i4,i5⟩
  · cases h1
  have hx := a.nine x (by simp)
  have hxo := ho x (by simp)
  have t9 : x.take 9 = x := List.take_of_length_le (by omega)
  have hc : c.length = off + (r.length + 1) * 9 := by
   have := congrArg List.length i3
   rw [List.length_drop,yQ a.nine] at this; simp only [List.length_cons] at this; omega
  have r1 : ∀ L,rdn w0 (H ++ L) (.own io off) 9 = some x := fun L => by
   simp only [rdn]
   rw [aB i2]
   simp only [i3]
   rw [if_pos (by omega),List.flatten_cons,List.take_append_of_le_length (by omega),t9]
  have q1 : ¬ ((x :: r).length : Int) = 0 := by simp only [List.length_cons]; omega
  have q2 : 1 ≤ (x :: r).length ∧ (x :: r).length ≤ (x :: r).length := ⟨by simp,Nat.le_refl _⟩
  simp only [go_sem,mf87,e1,hlen,q1,q2,r1,hx,hxo,t9,List.append_nil,Bool.false_and,Nat.add_sub_cancel]
  refine ⟨fun e => absurd e (by omega),fun _ => ⟨by omega,Nat.le_refl _,?_⟩⟩
  obtain ⟨Z,hZ⟩ : ∃ Z : List AV,Z = [AV.int IntKind.i64 0,AV.int IntKind.i64 0,AV.int IntKind.i64 0,AV.int IntKind.i64 0,AV.int IntKind.i64 0,AV.int IntKind.i64 0,AV.int IntKind.i64 0,AV.int IntKind.i64 0,AV.nilS] := ⟨_,rfl⟩
  rw [← hZ]
  have zl : Z.length = 9 := by rw [hZ]; rfl
  obtain ⟨K,hK⟩ : ∃ K,K = (H ++ [some (Blk.row Z),some (Blk.row x)]).set qb (some (Blk.row [AV.sl (.own io (off + 9)) r.length 9 false])) := ⟨_,rfl⟩
  rw [← hK]
  have hqH := aK a.box
  have hioH := aK i2
  have k0 : K[H.length]? = some (some (.row Z)) := by rw [hK,qB (by omega),qI (Nat.le_refl _),Nat.sub_self]; rfl
  have k1 : K[H.length + 1]? = some (some (.row x)) := by rw [hK,qB (by omega),qI (by omega),show H.length + 1 - H.length = 1 by omega]; rfl
  have kq : K[qb]? = some (some (.row [AV.sl (.own io (off + 9)) r.length 9 false])) := by rw [hK,qF (by simp; omega)]
  have ki : K[io]? = some (some (.row c)) := by rw [hK,qB (fun e => i1 e.symm)]; exact aB i2
  have ks : aE B K := hK ▸ a.sub.app.setN a.nb
  have d9 : Z.drop 9 = [] := List.drop_of_length_le (by omega)
  simp only [go_sem,k0,k1,hx,hxo,t9,zl,d9,List.append_nil]
  have k2 : (K.set H.length (some (.row x)))[H.length]? = some (some (.row x)) := by rw [qF (aK k0)]
  simp only [go_sem,k2,hx,hxo,t9]
  have hBH : ∀ b,B[H.length]? ≠ some (some b) := fun b e => by have := aK e; have := a.sub.1; omega
  refine ⟨.sl (.own io (off + 9)) r.length 9 false,⟨ks.setN hBH,by rw [qB (by omega)]; exact kq,a.nb,fun y hy => a.nine y (by simp [hy]),.inr ⟨io,off + 9,c,rfl,i1,by rw [qB (by omega)]; exact ki,?_,by omega,i5⟩⟩,fun io' off' n' e => ?_⟩
  · rw [← List.drop_drop,i3,List.flatten_cons,List.drop_append_of_le_length (by omega),List.drop_of_length_le (by omega),List.nil_append]
  · cases e; exact ⟨_,_,rfl⟩
end
theorem tS : aY Tryz.prog w0 90 [.nilS] h .nilS h := by
 refine aS aV qS vE vD (qE rfl) (by simp [AV.bdd,AV.bdds]) fun hb ha => bF ?_
 simp only [go_sem,mf90]
theorem aCF {v : AV} {l : List Int} (x : Int) (hv : SlI w0 h v l) (hn : l.length < 1000000) : aY Tryz.prog w0 145 [v,.int .i64 x] h (.int .i64 (match l.findIdx? (fun y => decide (x = y)) with | some j => (j : Int) | none => -1)) h := by
 refine aS aV sW xU xT (qE rfl) (by simp [AV.bdd,AV.bdds]) fun hb ha => bF ?_
 have hlen := (SlI.use hv).1
 simp only [go_sem,mf145,hlen]
 refine fT (fun j => [(0,v),(1,.int .i64 x),(7,.int .i64 l.length),(8,.int .i64 j)]) (fun j => ∀ y,l[j]? = some y → x ≠ y) l.length rfl (fun j hj hall ih => ?_) (fun hall => ?_)
 · refine aQ aV uG [0,1,7,8] L145_0.eq_1 ?_
   have e1 : (j : Int) < l.length := by omega
   obtain ⟨p,i1,r1,r1'⟩ := hv.at_ hj
   by_cases q : x = l[j]
   · have hf : l.findIdx? (fun y => decide (x = y)) = some j := by
      rw [List.findIdx?_eq_some_iff_getElem]
      exact ⟨hj,by simp [q],fun i hi => by simpa using hall i hi _ (qA (by omega))⟩
     simp only [go_sem,e1,i1,r1,r1',← q]
     rw [hf]
   · simp only [go_sem,e1,i1,r1,r1',q]
     exact ⟨(by unfold I64; omega),ih fun y hy => by rw [qA hj] at hy; cases hy; exact q⟩
 · refine aQ aV uG [0,1,7,8] L145_0.eq_1 ?_
   have e1 : ¬ (l.length : Int) < l.length := by omega
   have hf : l.findIdx? (fun y => decide (x = y)) = none := by
    rw [List.findIdx?_eq_none_iff]
    intro y hy
    obtain ⟨i,hi,rfl⟩ := List.getElem_of_mem hy
    simpa using hall i hi _ (qA hi)
   rw [hf]
   simp only [go_sem,e1]
theorem tQ {v : AV} {l : List Int} (x : Int) (hv : SlI w0 h v l) (hn : l.length < 1000000) : aY Tryz.prog w0 130 [v,.int .i64 x] h (.bool (decide (x ∈ l))) h := by
 refine aS aV sZ xY xX (qE rfl) (by simp [AV.bdd,AV.bdds]) fun hb ha => bF ?_
 simp only [go_sem,mf130]
 refine aI (aCF x (Sl.app hv) hn).v ?_
 cases hf : l.findIdx? (fun y => decide (x = y)) with
 | none =>
  rw [List.findIdx?_eq_none_iff] at hf
  have : x ∉ l := fun hm => by simpa using hf x hm
  simp only [go_sem]
  simp [this]
 | some j =>
  rw [List.findIdx?_eq_some_iff_getElem] at hf
  obtain ⟨hj,h1,_⟩ := hf
  have : x ∈ l := by
   simp only [decide_eq_true_eq] at h1
   rw [h1]; exact qG hj
  have e : (j : Int) ≥ 0 := by omega
  simp only [go_sem,e]
  simp [this]
def nis (l : List Nat) : List Int := l.map fun i : Nat => (i : Int)
theorem dK {l : List Nat} : (nis l).length = l.length := by simp [nis]
theorem aBs {l : List Nat} {x : Nat} : nis (l ++ [x]) = nis l ++ [(x : Int)] := by simp [nis]
theorem wY {l : List Nat} {x : Nat} : ((x : Int) ∈ nis l) ↔ x ∈ l := by
 simp only [nis,List.mem_map]
 constructor
 · rintro ⟨y,hy,e⟩
   obtain rfl : y = x := by omega
   exact hy
 · exact fun h => ⟨x,h,rfl⟩
theorem aFH {v : AV} {progs : List (List aF)} {st : List Int} {n who : Nat} (hv : PS w0 h v progs) (g : PG n progs) (r : RS n progs st) (hs : ∀ w,w < progs.length → aZ progs st w = none) (hw : who < progs.length) :
 ACall Tryz.prog w0 91 [.agg (aM st),v,.int .i64 who] h fun y H => aE h H ∧ SlI w0 H y (nis (dP progs st 5 who [])) := by
 obtain ⟨C,hC⟩ : ∃ C,C = dP progs st 5 who [] := ⟨_,rfl⟩
 rw [← hC]
 refine bK aV xD aBz aBy (qE rfl) fun hb ha => bF ?_
 have hl8 := r.ok.len
 have c1 : (aM st).length = 8 := by rw [cA,hl8]
 have t8 : (aM st).take 8 = aM st := List.take_of_length_le (by omega)
 have p4 := g.p4
 have n4 := g.n4
 simp only [go_sem,mf91,bM,c1]
 obtain ⟨X,hX⟩ : ∃ X,X = h ++ [some (Blk.row (aM st))] := ⟨_,rfl⟩
 have hXs : aE h X := hX ▸ aE.refl.app
 have hXx : X[h.length]? = some (some (.row (aM st))) := by rw [hX,qI (Nat.le_refl _),Nat.sub_self]; rfl
 refine cZ (S := Nat × Nat × List Nat × aA × AV) (F := fun s => [(1,v),(2,.int .i64 s.2.1),(3,.ptr (.own h.length 0)),(7,s.2.2.2.2)]) (H := fun s => s.2.2.2.1) (meas := fun s => s.1)
  (Inv := fun s => C = dP progs st s.1 s.2.1 s.2.2.1 ∧ s.2.1 < progs.length ∧ s.2.2.1.Nodup ∧ (∀ x ∈ s.2.2.1,x < progs.length) ∧ s.2.2.1.length + s.1 = 5 ∧ Gro X s.2.2.2.1 1 s.2.2.1.length s.2.2.2.2 (aM (nis s.2.2.1)))
  (5,who,[],X,.nilS) ⟨hC,hw,by simp,fun x hx => by simp at hx,rfl,by simpa [aM,nis] using Gro.nil aE.refl⟩ rfl (by rw [hX]) ?_
 rintro ⟨k,wh,out,H,ov⟩ ⟨hc,hwl,hnd,hlt,hk,hG⟩ ih
 simp only at hc hwl hnd hlt hk hG ih ⊢
 have hlen := gA (a := out) (b := List.range progs.length) hnd fun x hx => List.mem_range.2 (hlt x hx)
 rw [List.length_range] at hlen
 obtain ⟨k,rfl⟩ : ∃ j,k = j + 1 := ⟨k - 1,by omega⟩
 rw [dP] at hc
 refine aQ aV aFL [1,2,3,7] L91_0.eq_1 ?_
 have hsub := hG.sub
 have hx1 := hsub.2 _ _ hXx
 have hin : SlI w0 H ov (nis out) := hG.sli dK.symm
 simp only [go_sem]
 refine aI (tQ wh hin (by rw [dK]; omega)).v ?_
 simp only [go_sem]
 obtain ⟨Y,eY⟩ : ∃ Y,Y = H ++ [some (Blk.row [.int .i64 (wh : Int)])] := ⟨_,rfl⟩
 have gY : Gro X Y 1 out.length ov (aM (nis out)) := eY ▸ hG.app
 have hkk : Y[H.length]? = some (some (.row [.int .i64 (wh : Int)])) := by rw [eY,qI (Nat.le_refl _),Nat.sub_self]; rfl
 obtain ⟨G2,e5,e6⟩ := gY.more (w0 := w0) (b := 8) (f := true) hkk rfl rfl (by omega) (by omega)
 rw [← eY,e5]
 have e7 : Gro X G2 1 (out.length + 1) (.sl (.own Y.length 0) (out.length + 1) 1 false) (aM (nis (out ++ [wh]))) := by
  rw [aBs]; simpa [aM] using e6
 have g2x := e7.sub.2 _ _ hXx
 have g2s : aE h G2 := hXs.trans e7.sub
 simp only [go_sem,g2x,c1,t8]
 refine aI (pT (hv.sub g2s) r.ok hwl p4).v ?_
 by_cases hm : wh ∈ out
 · rw [if_pos hm] at hc
   have hmd : decide ((wh : Int) ∈ nis out) = true := decide_eq_true (wY.2 hm)
   have fin : ∀ L,SlI w0 (G2 ++ L) (.sl (.own Y.length 0) (out.length + 1) 1 false) (nis C) := fun L => by
    rw [hc]; exact Sl.app (e7.sli (by rw [dK]; simp))
   cases hst : stepS progs st wh with
   | none =>
    simp only [go_sem,fG,hmd]
    exact ⟨g2s.app,fin _⟩
   | some s =>
    simp only [go_sem,fG,aF.c,hmd]
    exact ⟨g2s.app,fin _⟩
 · rw [if_neg hm] at hc
   have hmd : decide ((wh : Int) ∈ nis out) = false := decide_eq_false (fun h => hm (wY.1 h))
   cases hst : stepS progs st wh with
   | none =>
    rw [hst] at hc
    simp only at hc
    simp only [go_sem,fG,hmd]
    refine ⟨g2s.app,?_⟩
    rw [hc]; exact Sl.app (e7.sli (by rw [dK]; simp))
   | some s =>
    rw [hst] at hc
    simp only at hc
    obtain ⟨k1,⟨t,ht,htn⟩,h3,h4⟩ := eS g r hs hwl hst
    have ht2 : s.thing.toNat = t := by omega
    rw [ht2] at h4
    have c3 := mO (l := st) (i := 4 + t) (by omega)
    rw [h4] at c3
    have ht4 : t < 4 := by omega
    simp only [go_sem,fG,aF.c,hmd,g2x,xL g2x,ht,jV,ht4,Nat.mul_one,c3]
    refine ih (k,jL st s,out ++ [wh],G2 ++ [some (Blk.row [.int .i64 s.kind,.int .i64 (t : Int)])],_) ⟨hc,h3,?_,fun x hx => ?_,by simp; omega,by simpa using e7.app⟩ (by simp only; omega)
    · rw [List.nodup_append]
      exact ⟨hnd,by simp,fun y hy z hz e2 => by simp at hz; subst hz; subst e2; exact hm hy⟩
    · rcases List.mem_append.1 hx with hx | hx
      · exact hlt x hx
      · simp at hx; omega
def WR (w0 : World) (B : aA) (w : bI) (c : List AV) : Prop := ∃ sv,c = aM w.1 ++ [sv] ∧ w.1.length = 8 ∧ SlI w0 B sv w.2 ∧ (w.2 = [] → sv = .nilS)
def dB (w0 : World) (B : aA) : List bI → List (List AV) → Prop
 | [],[] => True
 | w :: q,c :: r => WR w0 B w c ∧ dB w0 B q r
 | _,_ => False
theorem SlI.one {B : aA} {v : AV} {l : List Int} (s : SlI w0 B v l) : one v = true := (Sl.one s).1
theorem WR.sub {B C : aA} {w : bI} {c : List AV} (a : WR w0 B w c) (s : aE B C) : WR w0 C w c := by
 obtain ⟨sv,h1,h2,h3,h4⟩ := a
 exact ⟨sv,h1,h2,Sl.sub h3 s,h4⟩
theorem dB.sub {B C : aA} (s : aE B C) : ∀ {q : List bI} {r : List (List AV)},dB w0 B q r → dB w0 C q r
 | [],[],_ => trivial
 | _ :: _,_ :: _,⟨h1,h2⟩ => ⟨h1.sub s,dB.sub s h2⟩
 | [],_ :: _,h => h.elim
 | _ :: _,[],h => h.elim
theorem dB.snoc {B : aA} {w : bI} {c : List AV} (h : WR w0 B w c) : ∀ {q : List bI} {r : List (List AV)},dB w0 B q r → dB w0 B (q ++ [w]) (r ++ [c])
 | [],[],_ => ⟨h,trivial⟩
 | _ :: _,_ :: _,⟨h1,h2⟩ => ⟨h1,dB.snoc h h2⟩
 | [],_ :: _,h => h.elim
 | _ :: _,[],h => h.elim
theorem dB.len {B : aA} : ∀ {q : List bI} {r : List (List AV)},dB w0 B q r → r.length = q.length
 | [],[],_ => rfl
 | _ :: _,_ :: _,⟨_,h2⟩ => by have := dB.len h2; simp [this]
 | [],_ :: _,h => h.elim
 | _ :: _,[],h => h.elim
theorem WR.nine {B : aA} {w : bI} {c : List AV} (a : WR w0 B w c) : c.length = 9 := by
 obtain ⟨sv,rfl,h2,_⟩ := a
 simp [h2]
theorem WR.one {B : aA} {w : bI} {c : List AV} (a : WR w0 B w c) : c.all Ab.one = true := by
 obtain ⟨sv,rfl,_,h3,_⟩ := a
 rw [List.all_append,bM]
 simp [SlI.one h3]
theorem dB.one {B : aA} : ∀ {q : List bI} {r : List (List AV)},dB w0 B q r → ∀ c ∈ r,c.all Ab.one = true
 | [],[],_,c,hc => by simp at hc
 | _ :: _,_ :: _,⟨h1,h2⟩,c,hc => by
  rcases List.mem_cons.1 hc with rfl | hc
  · exact h1.one
  · exact dB.one h2 c hc
 | [],_ :: _,h,_,_ => h.elim
 | _ :: _,[],h,_,_ => h.elim
def cQ (progs : List (List aF)) (st : List Int) (j : Nat) : Option Nat := (List.range j).find? fun w => (stepS progs st w).isSome && (aZ progs st w).isNone
def gN (progs : List (List aF)) (st : List Int) (j : Nat) : Bool := (List.range j).any fun w => (aZ progs st w).isSome
theorem uN {progs : List (List aF)} {st : List Int} {j : Nat} : cQ progs st (j + 1) = match cQ progs st j with
 | some w => some w
 | none => if ((stepS progs st j).isSome && (aZ progs st j).isNone) = true then some j else none := by
 rw [cQ,List.range_succ,List.find?_append]
 rw [show (List.range j).find? (fun w => (stepS progs st w).isSome && (aZ progs st w).isNone) = cQ progs st j from rfl]
 cases cQ progs st j with
 | some w => rfl
 | none =>
  rw [Option.none_or,List.find?_cons]
  cases (stepS progs st j).isSome && (aZ progs st j).isNone <;> rfl
theorem oM {progs : List (List aF)} {st : List Int} {j : Nat} (h : ((stepS progs st j).isSome && (aZ progs st j).isNone) = false) : cQ progs st (j + 1) = cQ progs st j := by
 rw [uN]
 cases cQ progs st j with
 | some w => rfl
 | none => simp only [h]; rfl
theorem zT {progs : List (List aF)} {st : List Int} {j w : Nat} (h : cQ progs st j = some w) : cQ progs st (j + 1) = some w := by rw [uN,h]
theorem aAT {progs : List (List aF)} {st : List Int} {j : Nat} (h : cQ progs st j = none) (h2 : ((stepS progs st j).isSome && (aZ progs st j).isNone) = true) : cQ progs st (j + 1) = some j := by rw [uN,h]; simp only [h2]; rfl
theorem aCI {progs : List (List aF)} {st : List Int} {j : Nat} : gN progs st (j + 1) = (gN progs st j || (aZ progs st j).isSome) := by
 rw [gN,List.range_succ,List.any_append,gN]; simp
theorem nA {progs : List (List aF)} {st : List Int} : bU progs st = ((cQ progs st progs.length).isSome && !gN progs st progs.length) := by
 rw [Bool.eq_iff_iff,dN,Bool.and_eq_true,Bool.not_eq_true']
 constructor
 · rintro ⟨h1,w,h2,h3⟩
   refine ⟨?_,?_⟩
   · rw [cQ,List.find?_isSome]
     exact ⟨w,List.mem_range.2 h2,by rw [h3,h1 w h2]; rfl⟩
   · rw [gN,List.any_eq_false]
     intro x hx
     rw [h1 x (List.mem_range.1 hx)]; simp
 · rintro ⟨h1,h2⟩
   rw [cQ,List.find?_isSome] at h1
   rw [gN,List.any_eq_false] at h2
   obtain ⟨w,hw,hs⟩ := h1
   refine ⟨fun x hx => by simpa using h2 x (List.mem_range.2 hx),w,List.mem_range.1 hw,?_⟩
   rw [Bool.and_eq_true] at hs
   exact hs.1
theorem wH {progs : List (List aF)} {st : List Int} {j w : Nat} (h : cQ progs st j = some w) : w < j ∧ (stepS progs st w).isSome = true := by
 have h1 := List.mem_of_find?_eq_some h
 have h2 := List.find?_some h
 rw [Bool.and_eq_true] at h2
 exact ⟨List.mem_range.1 h1,h2.1⟩
def fV (progs : List (List aF)) (st : List Int) : Nat := (cQ progs st progs.length).getD 0
def wV (o : Option Nat) : AV := .int .i64 (match o with
 | some w => (w : Int)
 | none => -1)
structure QM (w0 : World) (h B H : aA) (sb qb wb : Nat) (qv : AV) (q : List bI) (M : List (List Int)) (rows : List (List AV)) (c0 : List AV) : Prop where
 hB : aE h B
 Q : QV B H qb qv rows
 rows : dB w0 B q rows
 seen : H[sb]? = some (some (.map (fY M)))
 sN : ∀ b,B[sb]? ≠ some (some b)
 cur : H[wb]? = some (some (.row c0))
 ne : sb ≠ qb ∧ wb ≠ qb ∧ wb ≠ sb
 io : ∀ io off n,qv = .sl (.own io off) n 9 false → io ≠ sb ∧ io ≠ wb
 hw : h.length ≤ wb ∧ h.length ≤ sb ∧ h.length ≤ qb
theorem QM.app {B H L : aA} {sb qb wb : Nat} {qv : AV} {q : List bI} {M : List (List Int)} {rows : List (List AV)} {c0 : List AV} (a : QM w0 h B H sb qb wb qv q M rows c0) : QM w0 h B (H ++ L) sb qb wb qv q M rows c0 :=
 ⟨a.hB,a.Q.app,a.rows,aB a.seen,a.sN,aB a.cur,a.ne,a.io,a.hw⟩
theorem QM.met {B H : aA} {sb qb wb : Nat} {qv : AV} {q : List bI} {M M' : List (List Int)} {rows : List (List AV)} {c0 : List AV} (a : QM w0 h B H sb qb wb qv q M rows c0) : QM w0 h B (H.set sb (some (.map (fY M')))) sb qb wb qv q M' rows c0 :=
 ⟨a.hB,a.Q.set a.sN (fun e => a.ne.1 e.symm) (fun io off n e => (a.io io off n e).1),a.rows,by rw [qF (aK a.seen)],a.sN,by rw [qB (fun e => a.ne.2.2 e.symm)]; exact a.cur,a.ne,a.io,a.hw⟩
def msq (H : aA) (qb : Nat) (qv : AV) : aA := match qv with
 | .sl (.own io _) _ _ _ => (H.set qb none).set io none
 | _ => H.set qb none
theorem cX {X : aA} {i j : Nat} {b : Blk} (e : (X.set i none)[j]? = some (some b)) : i ≠ j ∧ X[j]? = some (some b) := by
 by_cases q : i = j
 · subst q
   have := aK e
   rw [List.length_set] at this
   rw [qF this] at e; cases e
 · rw [qB q] at e; exact ⟨q,e⟩
theorem QV.msq {B H : aA} {qb : Nat} {qv : AV} {rows : List (List AV)} (a : QV B H qb qv rows) : QV (msq H qb qv) H qb qv rows ∧ aE B (msq H qb qv) ∧ (∀ i b,i ≠ qb → (∀ io off n,qv = .sl (.own io off) n 9 false → io ≠ i) → H[i]? = some b → (msq H qb qv)[i]? = some b) ∧ (msq H qb qv).length = H.length := by
 have hs : ∀ (X : aA) i,aE X H → aE (X.set i none) H := fun X i s => aE.msk.trans s
 rcases a.val with ⟨h1,h2⟩ | ⟨io,off,c,h1,h2,h3,h4,h5,h6⟩
 · subst h1
   have e : Ab.msq H qb .nilS = H.set qb none := rfl
   rw [e]
   refine ⟨a.base (hs _ _ aE.refl) (fun b e => (cX e).1 rfl) (fun io off n e => by cases e),a.sub.setN a.nb,fun i b h1 _ e => by rw [qB h1.symm]; exact e,by simp⟩
 · subst h1
   have e : Ab.msq H qb (.sl (.own io off) rows.length 9 false) = (H.set qb none).set io none := rfl
   rw [e]
   refine ⟨a.base (hs _ _ (hs _ _ aE.refl)) (fun b e => (cX (cX e).2).1 rfl) (fun io' off' n e b e2 => by cases e; exact (cX e2).1 rfl),(a.sub.setN a.nb).setN h6,fun i b h1 h2 e => by rw [qB (h2 io off _ rfl),qB h1.symm]; exact e,by simp⟩
theorem QM.put {B H K : aA} {sb qb wb : Nat} {qv : AV} {q : List bI} {M : List (List Int)} {rows : List (List AV)} {c0 : List AV} (a : QM w0 h B H sb qb wb qv q M rows c0) (hK : aE H K) {m : Nat} {s sch : List Int} (hm : H.length ≤ m) (hkm : K[m]? = some (some (.row (aM sch)))) (hs8 : s.length = 8) (hne : sch ≠ []) (hq : q.length ≤ 5000) :
 ACall Tryz.prog w0 86 [.ptr (.own qb 0),.agg (aM s ++ [.sl (.own m 0) sch.length 1 false])] K fun v H' => ∃ B' qv' rows',aE B B' ∧ QM w0 h B' H' sb qb wb qv' (q ++ [(s,sch)]) M rows' c0 := by
 have hKl := hK.1
 have qvK : QV B K qb qv rows := by
  refine ⟨a.Q.sub.trans hK,hK.2 _ _ a.Q.box,a.Q.nb,a.Q.nine,?_⟩
  rcases a.Q.val with h1 | ⟨io,off,c,h1,h2,h3,h4⟩
  · exact .inl h1
  · exact .inr ⟨io,off,c,h1,h2,hK.2 _ _ h3,h4⟩
 obtain ⟨b1,b2,b3,b4⟩ := qvK.msq
 have hqH := aK a.Q.box
 have hioH : ∀ io off n,qv = .sl (.own io off) n 9 false → io < H.length := fun io off n e => by
  rcases a.Q.val with ⟨h1,_⟩ | ⟨io',off',c,h1,h2,h3,_⟩
  · rw [h1] at e; cases e
  · rw [h1] at e; cases e; exact aK h3
 have km := b3 m _ (by omega) (fun io off n e => by have := hioH _ _ _ e; omega) hkm
 have ks := b3 sb _ a.ne.1 (fun io off n e => (a.io _ _ _ e).1) (hK.2 _ _ a.seen)
 have kw := b3 wb _ a.ne.2.1 (fun io off n e => (a.io _ _ _ e).2) (hK.2 _ _ a.cur)
 have hsH := aK a.seen
 have hwH := aK a.cur
 refine (put_c b1 (by simp [hs8]) (by rw [List.all_append,bM]; rfl) (by rw [a.rows.len]; exact hq)).mono fun v H' ⟨_,qv',c1,c2⟩ => ?_
 obtain ⟨B1,hB1⟩ : ∃ B1,B1 = msq K qb qv := ⟨_,rfl⟩
 rw [← hB1] at b1 b2 b4 c1 km ks kw
 have d1 : aE (B1.set sb none) H' := aE.msk.trans c1.sub
 have d2 : aE B (B1.set sb none) := b2.setN a.sN
 have d3 : (B1.set sb none)[m]? = some (some (.row (aM sch))) := by rw [qB (by omega)]; exact km
 refine ⟨B1.set sb none,qv',_,d2,a.hB.trans d2,c1.base d1 (fun b e => b1.nb b (cX e).2) (fun io off n e b e2 => ?_),(a.rows.sub d2).snoc ⟨_,rfl,hs8,pV d3 rfl,fun e => absurd e hne⟩,c1.sub.2 _ _ ks,fun b e => (cX e).1 rfl,c1.sub.2 _ _ kw,a.ne,fun io off n e => ?_,a.hw⟩
 · have := c2 _ _ _ e
   have := aK e2
   rw [List.length_set,b4] at this; omega
 · have := c2 _ _ _ e
   exact ⟨by omega,by omega⟩
theorem QM.next {B H : aA} {sb qb wb : Nat} {qv : AV} {q : List bI} {M : List (List Int)} {rows : List (List AV)} {c0 : List AV} (a : QM w0 h B H sb qb wb qv q M rows c0) :
 ACall Tryz.prog w0 87 [.ptr (.own qb 0)] (H ++ [some (.row c0)]) fun v H' => H'[H.length]? = some (some (.row c0)) ∧ ∃ (o : Option bI) (q' : List bI) (c0' : List AV),q = o.toList ++ q' ∧ v = .tup [.agg c0',.bool o.isSome] ∧ c0'.length = 9 ∧ c0'.all Ab.one = true ∧
  ∃ B2 qv' rows',aE B B2 ∧ QM w0 h B2 (H'.set H.length (some (.row c0'))) sb qb H.length qv' q' M rows' c0' ∧ (match o with
   | some w => WR w0 B2 w c0'
   | none => q' = []) := by
 obtain ⟨G,hG⟩ : ∃ G,G = H ++ [some (.row c0)] := ⟨_,rfl⟩
 rw [← hG]
 have aG : QM w0 h B G sb qb wb qv q M rows c0 := hG ▸ a.app
 have gH : G[H.length]? = some (some (.row c0)) := by rw [hG,qI (Nat.le_refl _),Nat.sub_self]; rfl
 obtain ⟨b1,b2,b3,b4⟩ := aG.Q.msq
 have hqH := aK a.Q.box
 have hioH : ∀ io off n,qv = .sl (.own io off) n 9 false → io < H.length := fun io off n e => by
  rcases a.Q.val with ⟨h1,_⟩ | ⟨io',off',c,h1,h2,h3,_⟩
  · rw [h1] at e; cases e
  · rw [h1] at e; cases e; exact aK h3
 obtain ⟨B1,hB1⟩ : ∃ B1,B1 = msq G qb qv := ⟨_,rfl⟩
 rw [← hB1] at b1 b2 b3 b4
 have kn := b3 H.length _ (by omega) (fun io off n e => by have := hioH _ _ _ e; omega) gH
 have ks := b3 sb _ a.ne.1 (fun io off n e => (a.io _ _ _ e).1) aG.seen
 have hsH := aK a.seen
 have hhw := a.hw
 have hhB := a.Q.sub.1
 have hhh := a.hB.1
 have e1 : ∀ H',aE B1 H' → ∀ x,aE ((B1.set sb none).set H.length none) (H'.set H.length x) := fun H' s x => ((aE.msk.trans aE.msk).trans s).setN fun b e => (cX e).1 rfl
 have e2 : aE B ((B1.set sb none).set H.length none) := (b2.setN a.sN).setN fun b e => by have := aK e; omega
 have e3 : ∀ b,((B1.set sb none).set H.length none)[sb]? ≠ some (some b) := fun b e => (cX (cX e).2).1 rfl
 have mk : ∀ (H' : aA) (qv' : AV) (r : List (List AV)) (q' : List bI) (c0' : List AV),QV B1 H' qb qv' r → (∀ io off n,qv' = .sl (.own io off) n 9 false → ∃ o n,qv = .sl (.own io o) n 9 false) → dB w0 B q' r →
  QM w0 h ((B1.set sb none).set H.length none) (H'.set H.length (some (.row c0'))) sb qb H.length qv' q' M r c0' := fun H' qv' r q' c0' k1 k2 k3 => by
  have hl := aK (k1.sub.2 _ _ kn)
  have f1 : QV ((B1.set sb none).set H.length none) H' qb qv' r := k1.base ((aE.msk.trans aE.msk).trans k1.sub) (fun b e => k1.nb b (cX (cX e).2).2) (fun io off n e b e4 => by
   rcases k1.val with ⟨h1,_⟩ | ⟨io',off',c,h1,h2,h3,h4,h5,h6⟩
   · rw [h1] at e; cases e
   · rw [h1] at e; cases e
     exact h6 b (cX (cX e4).2).2)
  refine ⟨a.hB.trans e2,f1.set (fun b e => (cX e).1 rfl) (by omega) (fun io off n e => ?_),k3.sub e2,by rw [qB (by omega)]; exact k1.sub.2 _ _ ks,e3,by rw [qF hl],⟨a.ne.1,by omega,by omega⟩,fun io off n e => ?_,by omega⟩
  · obtain ⟨o,n',e4⟩ := k2 _ _ _ e
    have := hioH _ _ _ e4; omega
  · obtain ⟨o,n',e4⟩ := k2 _ _ _ e
    have := hioH _ _ _ e4
    exact ⟨(a.io _ _ _ e4).1,by omega⟩
 have hro := a.rows
 have hone := a.rows.one
 cases q with
 | nil =>
  cases rows with
  | cons c r => exact hro.elim
  | nil =>
   refine (uP b1 hone).mono fun v H' hk => ?_
   obtain ⟨h1,h2⟩ := hk
   exact ⟨h2.sub.2 _ _ kn,none,[],aAS,rfl,h1,rfl,rfl,_,_,_,e2,mk H' qv [] [] aAS h2 (fun io off n e => ⟨off,n,e⟩) trivial,rfl⟩
 | cons w q =>
  cases rows with
  | nil => exact hro.elim
  | cons c r =>
   obtain ⟨h3,h4⟩ := hro
   refine (uP b1 hone).mono fun v H' hk => ?_
   obtain ⟨h1,qv',h2,h5⟩ := hk
   exact ⟨h2.sub.2 _ _ kn,some w,q,c,rfl,h1,h3.nine,h3.one,_,_,_,e2,mk H' qv' r q c h2 h5 h4,h3.sub e2⟩
def lQ (w0 : World) (H : aA) (y : AV) (things : Int) (progs : List (List aF)) (o : Option bI) : Prop :=
 if dJ progs = true then y = .tup [.nilS,.nilS,.int .i64 3]
 else if dZ things progs = true then match o with
  | none => y = .tup [.nilS,.nilS,.int .i64 5]
  | some w => ∃ sv cv,y = .tup [sv,cv,.int .i64 0] ∧ SlI w0 H sv w.2 ∧ SlI w0 H cv (nis (dP progs w.1 5 (fV progs w.1) []))
 else y = .tup [.nilS,.nilS,.int .i64 2]
theorem aBt : mu [(bE,[])] = 5 ^ 25 := by simp [mu]
set_option maxRecDepth 20000 in
set_option maxHeartbeats 4000000 in
theorem aFK {v : AV} {progs : List (List aF)} (things : Int) (F : Nat) (hF : 5 ^ 25 ≤ F) (hv : PS w0 h v progs) (hn : progs.length < 1000000) (hn2 : ∀ x ∈ progs,x.length < 1000000) :
 ACall Tryz.prog w0 36 [.int .i64 things,v] h fun y H => aE h H ∧ lQ w0 H y things progs (bfs progs F [(bE,[])] [bE]) := by
 refine bK aV xM aBP aBO (qE rfl) fun hb ha => bF ?_
 obtain ⟨C,hC⟩ : ∃ C,C = bfs progs F [(bE,[])] [bE] := ⟨_,rfl⟩
 rw [← hC]
 simp only [go_sem,mf36]
 refine aI (aCt hv.app hn).v ?_
 cases hL : dJ progs with
 | true =>
  simp only [go_sem]
  exact ⟨aE.refl.app,by unfold lQ; rw [if_pos hL]⟩
 | false =>
 have hno : ¬ dJ progs = true := by rw [hL]; simp
 simp only [go_sem]
 refine aI (kQ things hv.app hn hn2).v ?_
 cases hP : dZ things progs with
 | false =>
  simp only [go_sem]
  exact ⟨aE.refl.app,by unfold lQ; rw [if_neg hno,if_neg (by simp [hP])]⟩
 | true =>
 obtain ⟨n,rfl,g⟩ := PG.of hP hL
 have p4 := g.p4
 simp only [go_sem]
 refine aI aCL.v ?_
 simp only [go_sem,show aM (nobD 4) = [.int .i64 (-1),.int .i64 (-1),.int .i64 (-1),.int .i64 (-1)] from rfl]
 obtain ⟨X,hX⟩ : ∃ X,X = h ++ [some (Blk.row (aM bE)),some (Blk.map (fY []))] := ⟨_,rfl⟩
 obtain ⟨Y,hY⟩ : ∃ Y,Y = X.set (h.length + 1) (some (Blk.map (fY [bE]))) := ⟨_,rfl⟩
 have hput : jJ X k8 (.map (h.length + 1)) (.agg (aM bE)) (.bool true) = some (.undef,Y) := by
  rw [sF (M := []) (by rw [hX,qI (by omega),show h.length + 1 - h.length = 1 by omega]; rfl) rfl (by simp) (by simp),hY]; rfl
 have y0 : Y[h.length]? = some (some (.row (aM bE))) := by rw [hY,qB (by omega),hX,qI (Nat.le_refl _),Nat.sub_self]; rfl
 have y1 : Y[h.length + 1]? = some (some (.map (fY [bE]))) := by rw [hY,qF (by rw [hX]; simp)]
 have yl : Y.length = h.length + 2 := by rw [hY,hX]; simp
 have hsY : aE h Y := by rw [hY,hX]; exact (aE.refl.app).setN fun b e => by have := aK e; omega
 rw [hX] at hput
 have lit : aM bE = [.int .i64 0,.int .i64 0,.int .i64 0,.int .i64 0,.int .i64 (-1),.int .i64 (-1),.int .i64 (-1),.int .i64 (-1)] := rfl
 have lit0 : fY [] = [] := rfl
 rw [lit,lit0] at hput
 rw [lit] at y0
 simp only [go_sem,hput,xL y0]
 have Q0 : QV Y (Y ++ [some (Blk.row [.nilS])]) Y.length .nilS [] := ⟨aE.refl.app,by rw [qI (Nat.le_refl _),Nat.sub_self]; rfl,fun b e => by have := aK e; omega,by simp,.inl ⟨rfl,rfl⟩⟩
 refine aX (ACall.vc (first := []) (put_c (w0 := w0) (x := [.int .i64 0,.int .i64 0,.int .i64 0,.int .i64 0,.int .i64 (-1),.int .i64 (-1),.int .i64 (-1),.int .i64 (-1),.nilS]) Q0 rfl rfl (by simp))) ?_
 rintro _ H1 ⟨rfl,qv1,Q1,_⟩
 simp only [go_sem]
 rw [List.nil_append] at Q1
 refine aX (ACall.vc (first := []) (uP (w0 := w0) Q1 (fun r hr => by rw [List.mem_singleton.1 hr]; rfl))) ?_
 rintro _ H2 ⟨rfl,qv2,Q2,_⟩
 obtain ⟨x0,hx0⟩ : ∃ x0 : List AV,x0 = [.int .i64 0,.int .i64 0,.int .i64 0,.int .i64 0,.int .i64 (-1),.int .i64 (-1),.int .i64 (-1),.int .i64 (-1),.nilS] := ⟨_,rfl⟩
 have x9 : x0.length = 9 := by rw [hx0]; rfl
 have xo : x0.all one = true := by rw [hx0]; rfl
 have xt : x0.take 9 = x0 := List.take_of_length_le (by omega)
 rw [← hx0]
 simp only [go_sem,x9,xo,xt,List.append_nil]
 obtain ⟨sb,hsb⟩ : ∃ sb,sb = h.length + 1 := ⟨_,rfl⟩
 obtain ⟨qb,hqb⟩ : ∃ qb,qb = Y.length := ⟨_,rfl⟩
 rw [← hsb,← hqb]
 rw [← hqb] at Q2
 rw [← hsb] at y1
 have hH2 := aK Q2.box
 have hYs := Q2.sub
 have M0 : QM w0 h (Y.set sb none) (H2 ++ [some (Blk.row x0)]) sb qb H2.length qv2 [] [bE] [] x0 := by
  refine ⟨by rw [hY,hsb,List.set_set,hX]; exact (aE.refl.app).setN fun b e => by have := aK e; omega,(Q2.app).base (aE.msk.trans hYs.app) (fun b e => Q2.nb b (cX e).2) (fun io off n e => ?_),trivial,aB (hYs.2 _ _ y1),fun b e => (cX e).1 rfl,by rw [qI (Nat.le_refl _),Nat.sub_self]; rfl,by have := hYs.1; omega,fun io off n e => ?_,by have := hYs.1; omega⟩
  · rcases Q2.val with ⟨h1,_⟩ | ⟨io',off',c,h1,h2,h3,h4,h5,h6⟩
    · rw [h1] at e; cases e
    · rw [h1] at e; cases e
      exact fun b e2 => h6 b (cX e2).2
  · rcases Q2.val with ⟨h1,_⟩ | ⟨io',off',c,h1,h2,h3,h4,h5,h6⟩
    · rw [h1] at e; cases e
    · rw [h1] at e; cases e
      refine ⟨fun e2 => h6 _ (by rw [e2]; exact y1),by have := aK h3; omega⟩
 have W0 : WR w0 (Y.set sb none) (bE,[]) x0 := ⟨.nilS,by rw [hx0]; rfl,rfl,.inl ⟨rfl,rfl⟩,fun _ => rfl⟩
 obtain ⟨H3,hH3⟩ : ∃ H3,H3 = H2 ++ [some (Blk.row x0)] := ⟨_,rfl⟩
 rw [← hH3] at M0 ⊢
 have hlen := hv.len
 refine cZ (S := Nat × (aA × aA) × (Nat × AV) × (Option bI × List bI) × List (List Int) × List (List AV) × List AV)
  (F := fun s => [(1,v),(8,.map sb),(9,.ptr (.own qb 0)),(10,.ptr (.own s.2.2.1.1 0)),(11,.bool s.2.2.2.1.1.isSome)]) (H := fun s => s.2.1.2) (meas := fun s => s.1)
  (Inv := fun s => C = bfs progs s.1 (s.2.2.2.1.1.toList ++ s.2.2.2.1.2) s.2.2.2.2.1 ∧ mu (s.2.2.2.1.1.toList ++ s.2.2.2.1.2) ≤ s.1 ∧ QI n progs (s.2.2.2.1.1.toList ++ s.2.2.2.1.2) s.2.2.2.2.1 ∧
   QM w0 h s.2.1.1 s.2.1.2 sb qb s.2.2.1.1 s.2.2.1.2 s.2.2.2.1.2 s.2.2.2.2.1 s.2.2.2.2.2.1 s.2.2.2.2.2.2 ∧ match s.2.2.2.1.1 with
    | some w => WR w0 s.2.1.1 w s.2.2.2.2.2.2
    | none => s.2.2.2.1.2 = [])
  (F,(Y.set sb none,H3),(H2.length,qv2),(some (bE,[]),[]),[bE],[],x0) ⟨hC,by simp [mu]; exact hF,QI.start g,M0,W0⟩ rfl rfl ?_
 rintro ⟨k,⟨B,H⟩,⟨wb,qv⟩,⟨cur,q⟩,M,rows,c0⟩ ⟨hc,hmu,hqi,hqm,hcur⟩ ih
 simp only at hc hmu hqi hqm hcur ih ⊢
 have hsubH : aE h H := hqm.hB.trans hqm.Q.sub
 refine aQ aV aFT [1,8,9,10,11] L36_1.eq_1 ?_
 match cur,hc,hmu,hqi,hcur,ih with
 | none,hc,hmu,hqi,hcur,ih =>
  simp only at hcur
  subst hcur
  have hcn : C = none := by
   rw [hc]
   cases k <;> rfl
  simp only [go_sem,Option.isSome]
  exact ⟨hsubH,by unfold lQ; rw [if_neg hno,if_pos hP,hcn]⟩
 | some w,hc,hmu,hqi,hcur,ih =>
  simp only [Option.toList_some,List.singleton_append] at hc hmu hqi hcur
  have hw := hqi.way w (by simp)
  have hl8 := hw.rs.ok.len
  have hw24 := hw.len24 g
  have hmp : 0 < 5 ^ (25 - w.2.length) := Nat.pow_pos (by omega)
  obtain ⟨k,rfl⟩ : ∃ j,k = j + 1 := ⟨k - 1,by rw [qR] at hmu; omega⟩
  rw [bfs] at hc
  obtain ⟨sv,rfl,_,hsv,hsvn⟩ := hcur
  have c1 : (aM w.1).length = 8 := by rw [cA,hl8]
  have c9 : (aM w.1 ++ [sv]).length = 9 := by simp [hl8]
  have ct : (aM w.1 ++ [sv]).take 8 = aM w.1 := by rw [List.take_append_of_le_length (by omega),List.take_of_length_le (by omega)]
  have c8 : (aM w.1 ++ [sv])[8]? = some sv := by rw [qI (by omega),c1]; rfl
  obtain ⟨c0,hc0⟩ : ∃ c0,c0 = aM w.1 ++ [sv] := ⟨_,rfl⟩
  rw [← hc0] at hqm c9 ct c8
  simp only [go_sem,Option.isSome,hlen]
  refine cZ (S := Nat × (aA × aA) × AV × List (List AV)) (F := fun s => [(1,v),(8,.map sb),(9,.ptr (.own qb 0)),(10,.ptr (.own wb 0)),(12,wV (cQ progs w.1 s.1)),(13,.bool (gN progs w.1 s.1)),(48,.int .i64 progs.length),(49,.int .i64 s.1)]) (H := fun s => s.2.1.2) (meas := fun s => progs.length - s.1)
   (Inv := fun s => s.1 ≤ progs.length ∧ QM w0 h s.2.1.1 s.2.1.2 sb qb wb s.2.2.1 (cY progs w s.1 (M,q)).2 (cY progs w s.1 (M,q)).1 s.2.2.2 c0 ∧ SlI w0 s.2.1.1 sv w.2) (0,(B,H),qv,rows) ⟨Nat.zero_le _,hqm,hsv⟩ rfl rfl ?_
  rintro ⟨j,⟨B,H⟩,qv,rows⟩ ⟨hj,hqm,hsv⟩ ih2
  simp only at hj hqm hsv ih2 ⊢
  have hsubH : aE h H := hqm.hB.trans hqm.Q.sub
  have hqiJ := QI.pushes g (x := (M,q)) hqi.tail hw hj
  refine aQ aV aFU [1,8,9,10,12,13,48,49] L36_0.eq_1 ?_
  by_cases hjl : j < progs.length
  · have e1 : (j : Int) < progs.length := by omega
    have hst := hw.rs.ok
    have hcur := hqm.cur
    have t8 : (aM w.1).take 8 = aM w.1 := List.take_of_length_le (by omega)
    have d8 : (aM w.1).drop 8 = [] := List.drop_of_length_le (by omega)
    obtain ⟨x,hx⟩ : ∃ x,x = cY progs w j (M,q) := ⟨_,rfl⟩
    rw [← hx] at hqm hqiJ
    have hxs : cY progs w (j + 1) (M,q) = eM progs w x j := by rw [kP,← hx]
    have cont : ∀ (H' B' : aA) (qv' : AV) (rows' : List (List AV)) (a : AV) (b : Bool),eM progs w x j = x → a = wV (cQ progs w.1 (j + 1)) → b = gN progs w.1 (j + 1) → QM w0 h B' H' sb qb wb qv' x.2 x.1 rows' c0 → SlI w0 B' sv w.2 → lp Tryz.prog w0 none 111 h.length _ _ _ [(1,v),(8,.map sb),(9,.ptr (.own qb 0)),(10,.ptr (.own wb 0)),(12,a),(13,.bool b),(48,.int .i64 progs.length),(49,.int .i64 ((j + 1 : Nat) : Int))] H' := fun H' B' qv' rows' a b e1 e2 e3 e4 e5 => by
     subst e2; subst e3
     exact ih2 (j + 1,(B',H'),qv',rows') ⟨by simp only; omega,by simp only; rw [hxs,e1]; exact e4,e5⟩ (by simp only; omega)
    simp only [go_sem,e1,hcur,c9,ct,List.drop_zero]
    refine aI (yY (hv.sub hsubH) g.good hst hjl p4).v ?_
    cases hns : aZ progs w.1 j with
    | none =>
     have hpw : eM progs w x j = x := by rw [eM,hns]
     have hgo : gN progs w.1 (j + 1) = gN progs w.1 j := by rw [aCI,hns]; simp
     simp only [go_sem,kD,bM,c1,t8,d8,List.append_nil,xL hcur,c9,ct,List.drop_zero]
     refine aI (pT (hv.sub hsubH).app hst hjl p4).v ?_
     cases hss : stepS progs w.1 j with
     | none =>
      simp only [go_sem,fG]
      refine ⟨(by unfold I64; omega),cont _ B qv rows _ _ hpw ?_ hgo.symm hqm.app hsv⟩
      rw [oM (by rw [hss]; rfl)]
     | some s =>
      have hb : ((stepS progs w.1 j).isSome && (aZ progs w.1 j).isNone) = true := by rw [hss,hns]; rfl
      cases hwt : cQ progs w.1 j with
      | none =>
       simp only [go_sem,fG,aF.c,wV]
       refine ⟨(by unfold I64; omega),cont _ B qv rows _ _ hpw ?_ hgo.symm hqm.app hsv⟩
       rw [aAT hwt hb]; rfl
      | some u =>
       have e3 : ¬ (u : Int) = -1 := by omega
       simp only [go_sem,fG,aF.c,wV,e3]
       refine ⟨(by unfold I64; omega),cont _ B qv rows _ _ hpw ?_ hgo.symm hqm.app hsv⟩
       rw [zT hwt]; rfl
    | some s =>
     have hgo : gN progs w.1 (j + 1) = true := by rw [aCI,hns]; simp
     have hws : cQ progs w.1 (j + 1) = cQ progs w.1 j := oM (by rw [hns]; simp)
     obtain ⟨sx,hss⟩ : ∃ sx,stepS progs w.1 j = some sx := by
      cases e : stepS progs w.1 j with
      | none => rw [aZ,e] at hns; cases hns
      | some sx => exact ⟨sx,rfl⟩
     have hrs := (hw.rs.next g hjl hns).1
     have s8 := hrs.ok.len
     have z1 : (aM s).length = 8 := by rw [cA,s8]
     have zt : (aM s).take 8 = aM s := List.take_of_length_le (by omega)
     have zd : (aM s).drop 8 = [] := List.drop_of_length_le (by omega)
     simp only [go_sem,kD,bM,z1,zt,zd,List.append_nil,xL hcur,c9,ct,List.drop_zero]
     refine aI (pT (hv.sub hsubH).app hst hjl p4).v ?_
     rw [hss]
     have hM8 : ∀ m ∈ x.1,m.length = 8 := fun m hm => (hqiJ.sn m hm).ok.len
     have lk : ∀ L,lV (H ++ L) (true,[true,true,true,true,true,true,true,true]) (.bool false) false (.map sb) (.agg (aM s)) = some (.bool (decide (s ∈ x.1))) := fun L => aAm (xL hqm.seen L) s8 hM8
     by_cases hm : s ∈ x.1
     · have hpw : eM progs w x j = x := by rw [eM,hns]; exact if_pos hm
       have hmd := decide_eq_true hm
       rw [hmd] at lk
       simp only [go_sem,fG,aF.c,z1,zt,lk]
       exact ⟨(by unfold I64; omega),cont _ B qv rows _ _ hpw (by rw [hws]) hgo.symm hqm.app hsv⟩
     · have hmd := decide_eq_false hm
       rw [hmd] at lk
       have hpw : eM progs w x j = (x.1 ++ [s],x.2 ++ [(s,w.2 ++ [(j : Int)])]) := by rw [eM,hns]; exact if_neg hm
       obtain ⟨Z,hZ⟩ : ∃ Z,Z = H ++ [some (Blk.row (aM s)),some (Blk.row [AV.int IntKind.i64 sx.kind,AV.int IntKind.i64 sx.thing])] := ⟨_,rfl⟩
       have hqZ : QM w0 h B Z sb qb wb qv x.2 x.1 rows c0 := hZ ▸ hqm.app
       obtain ⟨U,hU⟩ : ∃ U,U = Z.set sb (some (.map (fY (x.1 ++ [s])))) := ⟨_,rfl⟩
       have mp : jJ Z (true,[true,true,true,true,true,true,true,true]) (.map sb) (.agg (aM s)) (.bool true) = some (.undef,U) := by rw [hU]; exact sF hqZ.seen s8 hM8 hm
       have hqU : QM w0 h B U sb qb wb qv x.2 (x.1 ++ [s]) rows c0 := hU ▸ hqZ.met
       have hsH := aK hqm.seen
       have u0 : U[H.length]? = some (some (.row (aM s))) := by rw [hU,qB (by omega),hZ,qI (Nat.le_refl _),Nat.sub_self]; rfl
       rw [hZ] at mp
       simp only [go_sem,fG,aF.c,z1,zt,lk,mp]
       have hcU := hqU.cur
       have g9 : 9 ≤ (aM s ++ [AV.nilS]).length := by simp [s8]
       have gt : List.take 8 (aM s ++ [AV.nilS]) = aM s := by rw [List.take_append_of_le_length (by omega),zt]
       have gd : List.drop 9 (aM s ++ [AV.nilS]) = [] := List.drop_of_length_le (by simp [s8])
       have hq5 : x.2.length ≤ 5000 := by have := hqiJ.q_len g; omega
       refine dr_fp2 aV (fun fr K => (fr.get 1 = v ∧ fr.get 8 = .map sb ∧ fr.get 9 = .ptr (.own qb 0) ∧ fr.get 10 = .ptr (.own wb 0) ∧ fr.get 12 = wV (cQ progs w.1 j) ∧ fr.get 13 = .bool true ∧ fr.get 48 = .int .i64 progs.length ∧ fr.get 49 = .int .i64 j) ∧ ∃ B' qv' rows',aE B B' ∧ QM w0 h B' K sb qb wb qv' (x.2 ++ [(s,w.2 ++ [(j : Int)])]) (x.1 ++ [s]) rows' c0) 4 6 [0,1,2,3,5,4,6,7,8,9] [0,1,2,3,5,6,4,7,8,9] [o_ 86 (m_ 9),o_ 87 (.load (.t 15) (some 8)),o_ 88 (.addr (.t 10) 8),o_ 89 (l_ 88),o_ 91 (m_ 14),.call (some 90) none (f_ 90) [(.t 89)]] [([(1,o_ 87 (.load (.t 15) (some 8)))],[o_ 92 (.bslice 1 [(.int .i64 0)] 1 [(0,1,(.t 91))]),o_ 93 (.app 1 [(.int .i64 0)] 8 (.t 90) (.t 92))]),([(1,o_ 87 (.load (.t 15) (some 8)))],[o_ 94 (.build [(.int .i64 0),(.int .i64 0),(.int .i64 0),(.int .i64 0),(.int .i64 0),(.int .i64 0),(.int .i64 0),(.int .i64 0),.nilS] [(0,8,(.t 87)),(8,1,(.t 93))]),.call (some 95) none (f_ 86) [(.t 86),(.t 94)]])] [o_ 86 (m_ 9),o_ 87 (.load (.t 15) (some 8)),o_ 88 (.addr (.t 10) 8),o_ 89 (l_ 88),o_ 91 (m_ 14),o_ 92 (.bslice 1 [(.int .i64 0)] 1 [(0,1,(.t 91))]),.call (some 90) none (f_ 90) [(.t 89)]] [([(1,o_ 87 (.load (.t 15) (some 8)))],[o_ 93 (.app 1 [(.int .i64 0)] 8 (.t 90) (.t 92))]),([(1,o_ 87 (.load (.t 15) (some 8)))],[o_ 94 (.build [(.int .i64 0),(.int .i64 0),(.int .i64 0),(.int .i64 0),(.int .i64 0),(.int .i64 0),(.int .i64 0),(.int .i64 0),.nilS] [(0,8,(.t 87)),(8,1,(.t 93))]),.call (some 95) none (f_ 86) [(.t 86),(.t 94)]])] rfl rfl rfl rfl (by kernel_rfl) (by kernel_rfl) (by kernel_rfl) ?_ ?_ ?_
       · simp only [go_sem,u0,z1,zt,hcU,c8]
         by_cases hw0 : w.2 = []
         · obtain rfl := hsvn hw0
           refine aI tS.v ?_
           have hap := yX (w0 := w0) (h := U) (es := 1) (b := 8) (x := [.int .i64 (j : Int)]) (L := [some (.row [.int .i64 (j : Int)])]) 0 true rfl rfl rfl (by omega)
           simp only [List.length_cons,List.length_nil,List.cons_append,List.nil_append,Nat.add_zero,Nat.zero_add] at hap
           simp only [go_sem,u0,xL u0,z1,zt,hap,bM,g9,gt,gd,List.append_nil]
           have P := hqU.put (w0 := w0) (K := U ++ [some (.row [.int .i64 (j : Int)]),some (.row [.int .i64 (j : Int)])]) (s := s) (sch := [(j : Int)]) aE.refl.app (m := U.length + 1) (by omega) (by rw [qI (by omega),show U.length + 1 - U.length = 1 by omega]; rfl) s8 (by simp) hq5
           refine aX (ACall.vc (first := []) (args := [.ptr (.own qb 0),.agg (aM s ++ [.sl (.own (U.length + 1) 0) 1 1 false])]) P) ?_
           rintro _ K2 ⟨B',qv',rows',b1,b2⟩
           simp only [go_sem]
           rw [hw0]
           exact ⟨B',qv',rows',b1,b2⟩
         · refine aX (ACall.vc (first := []) (mS (w0 := w0) (h := U) (Sl.sub hsv hqU.Q.sub) (by omega) hw0)) ?_
           rintro _ _ ⟨rfl,rfl⟩
           have hap := yW (w0 := w0) (h := U) (es := 1) (b := 8) (n := w.2.length) (x := [.int .i64 (j : Int)]) (old := iis w.2) (L := [some (.row []),some (.row (iis w.2)),some (.row [.int .i64 (j : Int)])]) 1 2 true rfl (by simp [iis]) rfl rfl rfl (by omega) (by omega)
           simp only [List.length_cons,List.length_nil,List.cons_append,List.nil_append,Nat.add_zero,Nat.zero_add] at hap
           obtain ⟨K,hK⟩ : ∃ K,K = U ++ ([some (.row []),some (.row (iis w.2)),some (.row [.int .i64 (j : Int)])].set 1 none ++ [some (.row (iis w.2 ++ [.int .i64 (j : Int)]))]) := ⟨_,rfl⟩
           have hKs : aE U K := hK ▸ aE.refl.app
           have hKu := hKs.2 _ _ u0
           have hKm : K[U.length + 3]? = some (some (.row (aM (w.2 ++ [(j : Int)])))) := by rw [hK,qI (by omega),show U.length + 3 - U.length = 3 by omega]; rw [← tG]; rfl
           rw [← hK] at hap
           simp only [go_sem,xL u0,z1,zt,hap,hKu,bM,g9,gt,gd,List.append_nil]
           have P := hqU.put (w0 := w0) (K := K) (s := s) (sch := w.2 ++ [(j : Int)]) hKs (m := U.length + 3) (by omega) hKm s8 (by simp) hq5
           rw [show (w.2 ++ [(j : Int)]).length = w.2.length + 1 by simp] at P
           refine aX (ACall.vc (first := []) (args := [.ptr (.own qb 0),.agg (aM s ++ [.sl (.own (U.length + 3) 0) (w.2.length + 1) 1 false])]) P) ?_
           rintro _ K2 ⟨B',qv',rows',b1,b2⟩
           simp only [go_sem]
           exact ⟨B',qv',rows',b1,b2⟩
       · simp only [go_sem,u0,z1,zt,hcU,c8]
         by_cases hw0 : w.2 = []
         · obtain rfl := hsvn hw0
           refine aI tS.v ?_
           have hap := yX (w0 := w0) (h := U) (es := 1) (b := 8) (x := [.int .i64 (j : Int)]) (L := [some (.row [.int .i64 (j : Int)])]) 0 true rfl rfl rfl (by omega)
           simp only [List.length_cons,List.length_nil,List.cons_append,List.nil_append,Nat.add_zero,Nat.zero_add] at hap
           simp only [go_sem,u0,xL u0,z1,zt,hap,bM,g9,gt,gd,List.append_nil]
           have P := hqU.put (w0 := w0) (K := U ++ [some (.row [.int .i64 (j : Int)]),some (.row [.int .i64 (j : Int)])]) (s := s) (sch := [(j : Int)]) aE.refl.app (m := U.length + 1) (by omega) (by rw [qI (by omega),show U.length + 1 - U.length = 1 by omega]; rfl) s8 (by simp) hq5
           refine aX (ACall.vc (first := []) (args := [.ptr (.own qb 0),.agg (aM s ++ [.sl (.own (U.length + 1) 0) 1 1 false])]) P) ?_
           rintro _ K2 ⟨B',qv',rows',b1,b2⟩
           simp only [go_sem]
           rw [hw0]
           exact ⟨B',qv',rows',b1,b2⟩
         · refine aX (ACall.vc (first := []) (mS (w0 := w0) (h := U ++ [some (Blk.row [AV.int IntKind.i64 (j : Int)])]) (Sl.app (Sl.sub hsv hqU.Q.sub)) (by omega) hw0)) ?_
           rintro _ _ ⟨rfl,rfl⟩
           have hap := yW (w0 := w0) (h := U) (es := 1) (b := 8) (n := w.2.length) (x := [.int .i64 (j : Int)]) (old := iis w.2) (L := [some (.row [.int .i64 (j : Int)]),some (.row []),some (.row (iis w.2))]) 2 0 true rfl (by simp [iis]) rfl rfl rfl (by omega) (by omega)
           simp only [List.length_cons,List.length_nil,List.cons_append,List.nil_append,Nat.add_zero,Nat.zero_add] at hap
           obtain ⟨K,hK⟩ : ∃ K,K = U ++ ([some (.row [.int .i64 (j : Int)]),some (.row []),some (.row (iis w.2))].set 2 none ++ [some (.row (iis w.2 ++ [.int .i64 (j : Int)]))]) := ⟨_,rfl⟩
           have hKs : aE U K := hK ▸ aE.refl.app
           have hKu := hKs.2 _ _ u0
           have hKm : K[U.length + 3]? = some (some (.row (aM (w.2 ++ [(j : Int)])))) := by rw [hK,qI (by omega),show U.length + 3 - U.length = 3 by omega]; rw [← tG]; rfl
           rw [← hK] at hap
           rw [List.length_append,List.append_assoc]
           simp only [go_sem,xL u0,z1,zt,hap,hKu,bM,g9,gt,gd,List.append_nil,List.length_cons,List.length_nil]
           have P := hqU.put (w0 := w0) (K := K) (s := s) (sch := w.2 ++ [(j : Int)]) hKs (m := U.length + 3) (by omega) hKm s8 (by simp) hq5
           rw [show (w.2 ++ [(j : Int)]).length = w.2.length + 1 by simp] at P
           refine aX (ACall.vc (first := []) (args := [.ptr (.own qb 0),.agg (aM s ++ [.sl (.own (U.length + 3) 0) (w.2.length + 1) 1 false])]) P) ?_
           rintro _ K2 ⟨B',qv',rows',b1,b2⟩
           simp only [go_sem]
           exact ⟨B',qv',rows',b1,b2⟩
       · rintro fr K ⟨⟨f1,f8,f9,f10,f12,f13,f48,f49⟩,B',qv',rows',b1,b2⟩
         simp only [go_sem,f1,f8,f9,f10,f12,f13,f48,f49]
         refine ⟨(by unfold I64; omega),?_⟩
         have := ih2 (j + 1,(B',K),qv',rows') ⟨by simp only; omega,by simp only; rw [hxs,hpw]; exact b2,Sl.sub hsv b1⟩ (by simp only; omega)
         simp only [hws,hgo] at this
         exact this
  · have e1 : ¬ (j : Int) < progs.length := by omega
    obtain rfl : j = progs.length := by omega
    have hcur := hqm.cur
    have hsw := nA (progs := progs) (st := w.1)
    have t9 : c0.take 9 = c0 := List.take_of_length_le (by omega)
    have W1 : WR w0 B w c0 := ⟨sv,hc0,hl8,hsv,hsvn⟩
    have c0o := W1.one
    cases hwt : cQ progs w.1 progs.length with
    | none =>
     rw [hwt] at hsw
     have hns : bU progs w.1 = false := by rw [hsw]; rfl
     rw [hns] at hc
     simp only [Bool.false_eq_true,if_false] at hc
     simp only [go_sem,e1,wV,hcur,c9,t9,c0o]
     rw [List.append_nil]
     refine aX (ACall.vc (first := []) (args := [.ptr (.own qb 0)]) (hqm.next (w0 := w0))) ?_
     rintro _ H' ⟨hn0,o,q',c1',hqe,rfl,n9,none_,B2,qv',rows',b1,b2,b3⟩
     have nt : c1'.take 9 = c1' := List.take_of_length_le (by omega)
     have nd : c0.drop 9 = [] := List.drop_of_length_le (by omega)
     simp only [go_sem,hn0,n9,none_,nt,c9,nd,List.append_nil]
     refine ih (k,(B2,H'.set H.length (some (.row c1'))),(H.length,qv'),(o,q'),_,rows',c1') ⟨?_,?_,?_,b2,b3⟩ (by simp only; omega)
     · simp only; rw [← hqe]; exact hc
     · simp only; rw [← hqe]; have := qQ g (q := q) (seen := M) hw24; omega
     · simp only; rw [← hqe]; exact hqiJ
    | some u =>
     have e3 : ¬ (u : Int) = -1 := by omega
     have e3' : ((u : Int) != -1) = true := by simp
     rw [hwt] at hsw
     cases hgo : gN progs w.1 progs.length with
     | true =>
      rw [hgo] at hsw
      have hns : bU progs w.1 = false := by rw [hsw]; rfl
      rw [hns] at hc
      simp only [Bool.false_eq_true,if_false] at hc
      simp only [go_sem,e1,wV,e3',hcur,c9,t9,c0o]
      rw [List.append_nil]
      refine aX (ACall.vc (first := []) (args := [.ptr (.own qb 0)]) (hqm.next (w0 := w0))) ?_
      rintro _ H' ⟨hn0,o,q',c1',hqe,rfl,n9,none_,B2,qv',rows',b1,b2,b3⟩
      have nt : c1'.take 9 = c1' := List.take_of_length_le (by omega)
      have nd : c0.drop 9 = [] := List.drop_of_length_le (by omega)
      simp only [go_sem,hn0,n9,none_,nt,c9,nd,List.append_nil]
      refine ih (k,(B2,H'.set H.length (some (.row c1'))),(H.length,qv'),(o,q'),_,rows',c1') ⟨?_,?_,?_,b2,b3⟩ (by simp only; omega)
      · simp only; rw [← hqe]; exact hc
      · simp only; rw [← hqe]; have := qQ g (q := q) (seen := M) hw24; omega
      · simp only; rw [← hqe]; exact hqiJ
     | false =>
      rw [hgo] at hsw
      have hns : bU progs w.1 = true := by rw [hsw]; rfl
      have hst2 := (dN.1 hns).1
      have hul := wH hwt
      rw [hns] at hc
      simp only [if_true] at hc
      simp only [go_sem,e1,wV,e3',hcur,c9,ct,c0o]
      refine aCQ aV [0,1,2,3,4,5,6,7,8,9] [o_ 103 (.addr (.t 10) 8),o_ 104 (l_ 103),o_ 105 (.addr (.t 10) 0),o_ 106 (.load (.t 105) (some 8)),o_ 107 (m_ 1),o_ 108 (m_ 12),.call (some 109) none (f_ 91) [(.t 106),(.t 107),(.t 108)]] [([(1,o_ 104 (l_ 103))],[o_ 4 (m_ 104),o_ 5 (m_ 109),o_ 6 (.mov (i_ 0))])] rfl rfl (by kernel_rfl) ?_
      simp only [go_sem,hcur,c9,ct,c8,List.drop_zero]
      refine aX (ACall.vc (first := []) (aFH (w0 := w0) (hv.sub hsubH) g hw.rs hst2 hul.1)) ?_
      rintro cv H' ⟨hs',hcv⟩
      have hcur' := hs'.2 _ _ hcur
      simp only [go_sem,hcur',c9,ct,c8,List.drop_zero]
      refine ⟨hsubH.trans hs',?_⟩
      unfold lQ
      rw [if_neg hno,if_pos hP,hc]
      refine ⟨sv,cv,rfl,Sl.sub (Sl.sub hsv hqm.Q.sub) hs',?_⟩
      rw [fV,hwt]
      exact hcv
end Go.Proofs.Ab

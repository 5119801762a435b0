/- The own layer under the proofs of this seat, part L: what calls of the program come to on an abstract heap. No condition. -/
import Derived.Test.YtajecdfdnlfndaaGreatK
set_option linter.unusedSimpArgs false
set_option linter.unusedVariables false
namespace Go.Proofs.Ab
open Go Go.Proofs
variable {w0 : World} {h : aA}
attribute [local irreducible] ACall bA bW aY cP rvC lp rg dr ex un rv
theorem Gro.len {H : aA} {es n : Nat} {ov : AV} {vs : List AV} (g : Gro h H es n ov vs) : fF ov = some (.int .i64 n) := by
 rcases g.own with ⟨rfl,rfl,_⟩ | ⟨_,_,_,rfl,_⟩ <;> rfl
theorem cU.setN {o : Nat} {A B : aA} (k : cU [o] A B) : aE (A.set o none) B := ⟨by simpa using k.le,fun i b e => by
 by_cases hi : o = i
 · subst hi
   have := aK e
   rw [List.length_set] at this
   rw [qF this] at e; cases e
 · rw [qB hi] at e
   exact k.at_ _ _ (by simp only [List.mem_singleton]; exact fun x => hi x.symm) e⟩
structure uD (h0 H : aA) (o : Nat) (ov : AV) (out : List Int) : Prop where
 keep : cU [o] h0 H
 box : H[o]? = some (some (.row [ov]))
 val : (ov = .nilS ∧ out = []) ∨ ∃ io c,h0.length ≤ io ∧ ov = .sl (.own io 0) out.length 1 false ∧ H[io]? = some (some (.row c)) ∧ out.length ≤ c.length ∧ c.take out.length = aM out
theorem uD.len {h0 H : aA} {o : Nat} {ov : AV} {out : List Int} (a : uD h0 H o ov out) : fF ov = some (.int .i64 out.length) := by
 rcases a.val with ⟨rfl,rfl⟩ | ⟨io,c,_,rfl,_⟩ <;> rfl
theorem uD.app {h0 H L : aA} {o : Nat} {ov : AV} {out : List Int} (a : uD h0 H o ov out) : uD h0 (H ++ L) o ov out := by
 refine ⟨a.keep.app,aB a.box,?_⟩
 rcases a.val with h1 | ⟨io,c,h1,h2,h3,h4,h5⟩
 · exact .inl h1
 · exact .inr ⟨io,c,h1,h2,aB h3,h4,h5⟩
theorem uD.more {h0 H : aA} {o k : Nat} {ov : AV} {out : List Int} (a : uD h0 H o ov out) (ho : o < h0.length) {f : Bool} {x : Int} (hk : H[k]? = some (some (.row [.int .i64 x]))) (hn : out.length ≤ 1000) :
 ∃ G,cT w0 H 1 8 ov (.sl (.own k 0) 1 1 f) = some (.sl (.own H.length 0) (out.length + 1) 1 false,G) ∧ G[o]? = some (some (.row [ov])) ∧ G.length = H.length + 1 ∧
  uD h0 (G.set o (some (.row [.sl (.own H.length 0) (out.length + 1) 1 false]))) o (.sl (.own H.length 0) (out.length + 1) 1 false) (out ++ [x]) := by
 have r1 : rdn w0 H (.own k 0) (1 * 1) = some [.int .i64 x] := by simp [rdn,hk]
 have hkl := a.keep.le
 rcases a.val with ⟨rfl,rfl⟩ | ⟨io,c,h1,rfl,h3,h4,h5⟩
 · refine ⟨H ++ [some (.row [.int .i64 x])],?_,aB a.box,by simp,(a.keep.app).set (.inl (by simp)),by rw [qF (by simp; omega)],.inr ⟨H.length,[.int .i64 x],by omega,rfl,?_,by simp,rfl⟩⟩
   · simp only [cT,eL,eU,if_true,r1,Option.map_some,Option.bind_some]
     rw [if_neg (by omega),if_pos ⟨by omega,rfl⟩]
     simp [fK]
   · rw [qB (by omega),qI (Nat.le_refl _),Nat.sub_self]; rfl
 · have hio := aK h3
   have r2 : rdn w0 H (.own io 0) (out.length * 1) = some (aM out) := by
    simp only [rdn,h3]
    rw [if_pos (by omega),List.drop_zero,Nat.mul_one,h5]
   rw [Nat.mul_one] at r2
   refine ⟨H.set io none ++ [some (.row (aM out ++ [.int .i64 x]))],?_,aB (by rw [qB (by omega)]; exact a.box),by simp,?_,by rw [qF (by simp; omega)],.inr ⟨H.length,aM out ++ [.int .i64 x],by omega,by simp,?_,by simp,?_⟩⟩
   · simp only [cT,eL,eU,if_true,r1,Option.map_some,Option.bind_some]
     rw [if_neg (by omega),if_pos ⟨trivial,by omega,rfl⟩]
     simp [r2]
   · exact ((a.keep.set (.inr h1)).app).set (.inl (by simp))
   · rw [qB (by omega),qI (by simp)]; simp
   · rw [List.take_of_length_le (by simp)]; simp [aM]
theorem aAg {x y : AV} {a b : List Int} (hx : SlI w0 h x a) (hy : SlI w0 h y b) (hn : a.length < 1000000) : aY Tryz.prog w0 25 [x,y] h (.bool (eG a b)) h := by
 refine aS aV aD9 mf25_b mf25_g (qE rfl) (by simp [AV.bdd,AV.bdds]) fun hb ha => bF ?_
 have la := (SlI.use hx).1
 have lb := (SlI.use hy).1
 simp only [go_sem,mf25]
 refine fT (fun j => [(0,x),(1,y),(5,.int .i64 j)]) (fun j => a[j]? = b[j]?) (min a.length b.length) rfl (fun j hj hall ih => ?_) (fun hall => ?_)
 all_goals
  have hb' : ∀ j,j ≤ a.length → j ≤ b.length → (∀ i,i < j → a[i]? = b[i]?) → eG a b = eG (a.drop j) (b.drop j) := fun j h1 h2 h3 => by
   have : a.take j = b.take j := List.ext_getElem? fun i => by
    rw [List.getElem?_take,List.getElem?_take]; split
    · rename_i hi; exact h3 i hi
    · rfl
   have e := tZ (a.take j) (a.drop j) (b.drop j)
   rwa [List.take_append_drop,this,List.take_append_drop] at e
 · refine aQ aV zL [0,1,5] L25_0.eq_1 ?_
   have hja : j < a.length := by omega
   have hb2 : j < b.length := by omega
   obtain ⟨p1,i1,r1,r1'⟩ := SlI.at_ hx hja
   obtain ⟨p2,i2,r2,r2'⟩ := SlI.at_ hy hb2
   have e1 : (j : Int) < a.length := by omega
   have e2 : (j : Int) < b.length := by omega
   have hbd := hb' j (by omega) (by omega) hall
   rw [List.drop_eq_getElem_cons hja,List.drop_eq_getElem_cons hb2,eG] at hbd
   by_cases q1 : a[j] = b[j]
   · simp only [go_sem,la,lb,e1,e2,i1,i2,r1,r2,r1',r2',q1]
     exact ⟨(by unfold I64; omega),ih (by rw [qA hja,qA hb2,q1])⟩
   · simp only [go_sem,la,lb,e1,e2,i1,i2,r1,r2,r1',r2',q1]
     rw [hbd,if_neg q1]
 · refine aQ aV zL [0,1,5] L25_0.eq_1 ?_
   have hbd := hb' (min a.length b.length) (by omega) (by omega) hall
   have hf : eG a b = false := by
    rw [hbd]
    by_cases hc : a.length ≤ b.length
    · rw [List.drop_of_length_le (by omega)]; rfl
    · rw [List.drop_of_length_le (l := b) (by omega)]
      cases a.drop (min a.length b.length) <;> rfl
   by_cases hc : a.length ≤ b.length
   · have e1 : ¬ ((min a.length b.length : Nat) : Int) < a.length := by omega
     simp only [go_sem,la,lb,e1]
     rw [hf]
   · have e1 : ((min a.length b.length : Nat) : Int) < a.length := by omega
     have e2 : ¬ ((min a.length b.length : Nat) : Int) < b.length := by omega
     simp only [go_sem,la,lb,e1,e2]
     rw [hf]
end Go.Proofs.Ab
